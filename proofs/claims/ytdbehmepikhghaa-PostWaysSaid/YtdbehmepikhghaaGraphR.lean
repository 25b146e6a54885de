/- The law on ways. -/
import Derived.Test.YtdbehmepikhghaaGraphQ
set_option linter.unusedVariables false
set_option linter.unusedSimpArgs false
set_option maxRecDepth 10000
namespace Go.Proofs.Ytdbehmepikhghaa.Graph
open Go.Proofs.Ytdbehmepikhghaa.AM
/-- The law's temporaries. -/
def tw (f : Fn) (s : Int) (x5 x6 x7 x8 x9 x10 x11 x12 x13 x14 x15 x16 x17 x18 : PV) : List PV := [encF f, i64 s, .ptr 0 0, .s (.bool false), i64 (f.code.length : Nat), x5, x6, x7, x8, x9, x10, x11, x12, x13, x14, x15, x16, x17, x18, .junk, .junk, .junk, .junk, .junk, .junk, .junk, .junk, .junk, .junk, .junk, .junk, .junk, .junk]
def hw (f : Fn) : PH := [.cel (cellsF f)]
theorem graphWays_ok {f : Fn} (hop : ∀ i, in64 (f.code.getD i (0, 0)).1) (harg : ∀ i, in64 (f.code.getD i (0, 0)).2) (s : Int) (hs : in64 s) : PFun E 6 [encF f, i64 s] (valQ (isV (.s (.bool true)))) := by
  refine p_fun ?_
  show PTri E false [] _ [encF f, i64 s, .junk, .junk, .junk, .junk, .junk, .junk, .junk, .junk, .junk, .junk, .junk, .junk, .junk, .junk, .junk, .junk, .junk, .junk, .junk, .junk, .junk, .junk, .junk, .junk, .junk, .junk, .junk, .junk, .junk, .junk, .junk] _ _
  refine s_run ?_
  refine s_run ?_
  refine s_ass (s_reg (g_run 1 ?_))
  refine prg_split (fun h => ?_) (fun h => ?_)
  · refine g_end ?_
    refine s_t (s_ass (s_reg ?_))
    refine g_call awake_ok ?_
    rintro v rfl
    refine ⟨rfl, ?_⟩
    refine g_end ?_
    exact s_ret fin_v
  simp only [gt_iff_lt, decide_eq_false_iff_not] at h
  have hn : f.code.length ≤ 60 := by omega
  have hf : Fit f.code := ⟨by omega, hop, harg⟩
  refine g_call awake_ok ?_
  rintro v rfl
  refine ⟨rfl, ?_⟩
  refine g_end ?_
  refine s_f (s_skip ?_)
  refine s_ass (s_run ?_)
  -- edges from both ends
  refine s_loop (fun a => a ≤ f.code.length + 1) (fun a => f.code.length + 1 - a) (fun a => tw f s (i64 (a : Nat)) .junk .junk .junk .junk .junk .junk .junk .junk .junk .junk .junk .junk .junk) (fun _ => hw f) 0 (Nat.zero_le _) (σ := [some 0]) (wk _ [] _ _ (blks := .cons bs_cel .nil)) ?_
  intro a ha
  refine s_ass (s_run ?_)
  refine s_cond (fun h => ?_) (fun h => ?_)
  · simp only [decide_eq_true_eq] at h
    refine s_skip (s_block (s_reg (g_run 1 ?_)))
    refine g_call (next_ok hf (a : Nat)) ?_
    rintro v rfl
    refine ⟨rfl, ?_⟩
    refine g_end ?_
    have hnl := nextI_len f.code (a : Nat)
    refine s_run ?_
    refine e_loop (fun b => b ≤ f.code.length + 1) (fun b => f.code.length + 1 - b) (fun b => tw f s (i64 (a : Nat)) (encI (nextI f.code (a : Nat))) (i64 (b : Nat)) .junk .junk .junk .junk .junk .junk .junk .junk .junk .junk .junk) (fun _ => hw f) 0 (Nat.zero_le _) (σ := [some 0]) (wk _ [] _ _ (blks := .cons bs_cel .nil)) ?_
    intro b hb
    refine s_ass (s_run ?_)
    refine s_cond (fun h => ?_) (fun h => ?_)
    · simp only [decide_eq_true_eq] at h
      refine s_skip (s_block (s_drw ?_))
      refine g_call (has_ok (nextI f.code (a : Nat)) (b : Nat) (by omega)) ?_
      rintro v rfl
      refine ⟨rfl, ?_⟩
      refine g_run 1 ?_
      refine g_call (ahead_ok hf (b : Nat)) ?_
      rintro v rfl
      refine ⟨rfl, ?_⟩
      have hal := aheadN_len f.code (b : Nat) f.code.length
      refine g_call (has_ok (aheadI f.code (b : Nat)) (a : Nat) (by show (aheadN _ _ _).length < _; omega)) ?_
      rintro v rfl
      refine ⟨rfl, ?_⟩
      refine g_end ?_
      refine e_cond (fun h2 => ?_) (fun h2 => ?_)
      · exfalso
        have := way_dual (code := f.code) (a := a) (b := (b : Nat))
        simp [this] at h2
      · refine p_skip ?_
        refine e_run ?_
        exact lp_next (b + 1) (by omega) (σ := [some 0]) (wk _ [] _ _ (blks := .cons bs_cel .nil))
    · simp only [decide_eq_false_iff_not] at h
      refine s_exit ?_
      refine e_run ?_
      exact lp_next (a + 1) (by omega) (σ := [some 0]) (wk _ [] _ _ (blks := .cons bs_cel .nil))
  · simp only [decide_eq_false_iff_not] at h
    refine s_exit ?_
    refine s_reg (g_run 1 ?_)
    refine g_call (reach_ok hf s) ?_
    rintro v rfl
    refine ⟨rfl, ?_⟩
    refine g_end ?_
    have hrl := reachL_len f.code s
    refine s_ass (s_run ?_)
    refine s_cond (fun h => ?_) (fun h => ?_)
    · exfalso
      simp [hrl] at h
    refine s_skip (s_ass (s_run ?_))
    -- what is reached
    refine s_loop (fun a => a ≤ f.code.length + 1) (fun a => f.code.length + 1 - a) (fun a => tw f s .junk .junk .junk (encB (reachL f.code s)) (i64 (a : Nat)) .junk .junk .junk .junk .junk .junk .junk .junk .junk) (fun _ => hw f) 0 (Nat.zero_le _) (σ := [some 0]) (wk _ [] _ _ (blks := .cons bs_cel .nil)) ?_
    intro a ha
    refine s_ass (s_run ?_)
    refine s_cond (fun h => ?_) (fun h => ?_)
    · simp only [decide_eq_true_eq] at h
      have hal : a < f.code.length + 1 := by omega
      refine s_skip (s_block (s_ass (s_run ?_)))
      refine s_cond (fun h2 => ?_) (fun h2 => ?_)
      · refine s_exit ?_
        refine e_run ?_
        exact lp_next (a + 1) (by omega) (σ := [some 0]) (wk _ [] _ _ (blks := .cons bs_cel .nil))
      have hra : (reachL f.code s).getD a false = true := by simpa using h2
      refine s_skip (s_reg (g_run 1 ?_))
      refine g_call (next_ok hf (a : Nat)) ?_
      rintro v rfl
      refine ⟨rfl, ?_⟩
      refine g_end ?_
      have hnl := nextI_len f.code (a : Nat)
      refine s_ass (s_run ?_)
      refine s_loop (fun i => i ≤ (nextI f.code (a : Nat)).length) (fun i => (nextI f.code (a : Nat)).length - i) (fun i => tw f s .junk .junk .junk (encB (reachL f.code s)) (i64 (a : Nat)) (encI (nextI f.code (a : Nat))) (i64 (i : Nat)) .junk .junk .junk .junk .junk .junk .junk) (fun _ => hw f) 0 (Nat.zero_le _) (σ := [some 0]) (wk _ [] _ _ (blks := .cons bs_cel .nil)) ?_
      intro i hi
      refine s_ass (s_run ?_)
      refine s_cond (fun h => ?_) (fun h => ?_)
      · simp only [decide_eq_true_eq] at h
        have hil : i < (nextI f.code (a : Nat)).length := by omega
        obtain ⟨k, hk, hkn, hkr⟩ := reach_closed hal hra (List.getElem_mem hil)
        have hk' : (nextI f.code (a : Nat)).getD i 0 = (k : Int) := by rw [getD_at hil]; exact hk
        refine s_skip (s_block (s_reg (g_run 2 ?_)))
        rw [hk']
        refine g_end ?_
        refine e_cond (fun h3 => ?_) (fun h3 => ?_)
        · exfalso; simp only [hkr] at h3; cases h3
        · refine p_skip (e_run ?_)
          exact lp_next (i + 1) (by omega) (σ := [some 0]) (wk _ [] _ _ (blks := .cons bs_cel .nil))
      · refine s_exit ?_
        refine s_run ?_
        refine s_reg (g_run 1 ?_)
        refine g_call (ahead_ok hf (a : Nat)) ?_
        rintro v rfl
        refine ⟨rfl, ?_⟩
        refine g_end ?_
        have hbl : (aheadI f.code (a : Nat)).length ≤ f.code.length := aheadN_len f.code (a : Nat) f.code.length
        refine s_ass (s_run ?_)
        refine s_loop (ι := Nat × Bool) (fun st => st.1 ≤ (aheadI f.code (a : Nat)).length ∧ st.2 = ((((a : Nat) : Int) == s) || ((aheadI f.code (a : Nat)).take st.1).any fun k => (reachL f.code s).getD k.toNat false)) (fun st => (aheadI f.code (a : Nat)).length - st.1) (fun st => tw f s .junk .junk .junk (encB (reachL f.code s)) (i64 (a : Nat)) .junk .junk (.s (.bool st.2)) (encI (aheadI f.code (a : Nat))) (i64 (st.1 : Nat)) .junk .junk .junk .junk) (fun _ => hw f) (0, ((a : Nat) : Int) == s) ⟨Nat.zero_le _, by simp⟩ (σ := [some 0]) (wk _ [] _ _ (blks := .cons bs_cel .nil)) ?_
        rintro ⟨i, c⟩ ⟨hi, hc⟩
        simp only at hi hc
        refine s_ass (s_run ?_)
        refine s_cond (fun h => ?_) (fun h => ?_)
        · simp only [decide_eq_true_eq] at h
          have hil : i < (aheadI f.code (a : Nat)).length := by omega
          obtain ⟨k, hk, hkn⟩ := aheadN_mem (show (aheadI f.code (a : Nat))[i] ∈ aheadN f.code (a : Nat) f.code.length from List.getElem_mem hil)
          have hk' : (aheadI f.code (a : Nat)).getD i 0 = (k : Int) := by rw [getD_at hil]; exact hk
          have htake : (aheadI f.code (a : Nat)).take (i + 1) = (aheadI f.code (a : Nat)).take i ++ [(k : Int)] := by rw [List.take_succ_eq_append_getElem hil, hk]
          refine s_skip (s_block ?_)
          cases c with
          | true =>
            refine e_run ?_
            refine e_run ?_
            exact lp_next (i := (i, true)) (i + 1, true) ⟨by show i + 1 ≤ _; omega, by
              show true = _
              rw [htake, List.any_append, ← Bool.or_assoc, ← hc]; rfl⟩ (σ := [some 0]) (wk _ [] _ _ (blks := .cons bs_cel .nil)) (by dsimp only; omega)
          | false =>
            refine e_reg (g_run 5 ?_)
            rw [hk']
            refine g_end ?_
            refine e_run ?_
            refine lp_next (i := (i, false)) (i + 1, (reachL f.code s).getD k false) ⟨by show i + 1 ≤ _; omega, by
              show (reachL f.code s).getD k false = _
              rw [htake, List.any_append, ← Bool.or_assoc, ← hc]; simp⟩ (σ := [some 0]) (wk _ [] _ _ (blks := .cons bs_cel .nil)) (by dsimp only; omega)
        · simp only [decide_eq_false_iff_not] at h
          have hie : i = (aheadI f.code (a : Nat)).length := by omega
          refine s_exit ?_
          refine s_run ?_
          have hct : c = true := by
            rw [hc, hie, List.take_length]
            rcases reach_came hal hra with q | ⟨k, q1, q2⟩
            · simp [q]
            · rw [Bool.or_eq_true]
              right
              exact List.any_eq_true.2 ⟨_, q1, by simpa using q2⟩
          subst hct
          refine e_f ?_
          refine p_skip (e_run ?_)
          exact lp_next (a + 1) (by omega) (σ := [some 0]) (wk _ [] _ _ (blks := .cons bs_cel .nil))
    · simp only [decide_eq_false_iff_not] at h
      refine s_exit ?_
      refine s_cut (fun T hp => TSub T (tw f s .junk .junk .junk .junk .junk .junk .junk .junk .junk .junk .junk .junk .junk .junk) ∧ hp = hw f) ?_ ?_
      · refine s_reg (g_run 1 ?_)
        refine prg_split (fun h1 => ?_) (fun h1 => ?_)
        · simp only [ge_iff_le, decide_eq_true_eq] at h1
          obtain ⟨k, rfl⟩ : ∃ k : Nat, s = k := ⟨s.toNat, by omega⟩
          refine g_run 3 ?_
          refine prg_split (fun h2 => ?_) (fun h2 => ?_)
          · simp only [decide_eq_true_eq] at h2
            refine g_run 3 ?_
            refine g_end ?_
            refine e_cond (fun h3 => ?_) (fun h3 => ?_)
            · exfalso
              have := reach_self (code := f.code) (s := (k : Int)) (by omega) h2
              rw [Int.toNat_natCast] at this
              simp only [this] at h3
              cases h3
            · exact p_skip ⟨rfl, by unfold tw; repeat' (first | exact TSub.nil | apply TSub.same | apply TSub.junk), rfl⟩
          · refine g_end ?_
            refine e_f ?_
            exact p_skip ⟨rfl, by unfold tw; repeat' (first | exact TSub.nil | apply TSub.same | apply TSub.junk), rfl⟩
        · refine g_end ?_
          refine e_f ?_
          exact p_skip ⟨rfl, by unfold tw; repeat' (first | exact TSub.nil | apply TSub.same | apply TSub.junk), rfl⟩
      rintro T hp ⟨hT, rfl⟩
      refine p_tsub hT ?_
      clear hT T
      unfold tw hw
      -- the exit
      obtain ⟨x, ok, hW, hE1, hE2⟩ := exit_tells f.code
      refine s_reg (g_run 1 ?_)
      refine g_call (exit_ok hf) ?_
      intro v hv
      obtain rfl : v = .tup [i64 x, .s (.bool ok)] := Eq.trans hv hW
      refine ⟨rfl, ?_⟩
      refine g_end ?_
      refine s_ass (s_run ?_)
      refine s_loop (fun a => a ≤ f.code.length ∧ ∀ j : Nat, j < a → (reachL f.code (j : Nat)).getD f.code.length false = true) (fun a => f.code.length - a) (fun a => tw f s .junk .junk .junk .junk .junk .junk .junk .junk .junk .junk (i64 x) (.s (.bool ok)) (i64 (a : Nat)) .junk) (fun _ => hw f) 0 ⟨Nat.zero_le _, fun j hj => absurd hj (Nat.not_lt_zero _)⟩ (σ := [some 0]) (wk _ [] _ _ (blks := .cons bs_cel .nil)) ?_
      rintro a ⟨ha, hj⟩
      refine s_ass (s_run ?_)
      refine s_cond (fun h => ?_) (fun h => ?_)
      · simp only [decide_eq_true_eq] at h
        have hal : a < f.code.length := by omega
        have hrl := reachL_len f.code (a : Nat)
        refine s_skip (s_block (s_reg (g_run 1 ?_)))
        refine g_call (reach_ok hf (a : Nat)) ?_
        rintro v rfl
        refine ⟨rfl, ?_⟩
        refine g_end ?_
        refine s_run ?_
        refine e_cond (fun h3 => ?_) (fun h3 => ?_)
        · have h3' : (reachL f.code (a : Nat)).getD f.code.length false = false := by simpa using h3
          obtain ⟨rfl, rfl⟩ := hE1 a hal hj h3'
          refine s_reg (g_run 3 ?_)
          refine prg_head (v' := .s (.bool true)) (by simp) ?_
          refine g_end ?_
          exact p_ret fin_v
        · have h3' : (reachL f.code (a : Nat)).getD f.code.length false = true := by simpa using h3
          refine p_skip (e_run ?_)
          refine lp_next (a + 1) ⟨by omega, fun j hj' => ?_⟩ (σ := [some 0]) (wk _ [] _ _ (blks := .cons bs_cel .nil))
          by_cases e : j = a
          · subst e; exact h3'
          · exact hj j (by omega)
      · simp only [decide_eq_false_iff_not] at h
        have hae : a = f.code.length := by omega
        subst hae
        obtain ⟨rfl, rfl⟩ := hE2 hj
        refine s_exit ?_
        refine s_run ?_
        exact p_ret fin_v
end Go.Proofs.Ytdbehmepikhghaa.Graph
