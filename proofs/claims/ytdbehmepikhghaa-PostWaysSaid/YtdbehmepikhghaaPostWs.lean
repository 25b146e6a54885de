/- The law PostWays. -/
import Derived.Test.YtdbehmepikhghaaPostWay
set_option linter.unusedVariables false
set_option linter.unusedSimpArgs false
set_option maxRecDepth 10000
namespace Go.Proofs.Ytdbehmepikhghaa.Graph
open Go.Proofs.Ytdbehmepikhghaa.AM Go.Proofs.Ytdbehmepikhghaa.Post
theorem wy_snoc {nx : Nat → List Nat} {a b c : Nat} (h : Wy nx a b) (hc : c ∈ nx b) : Wy nx a c := h.trans (.step hc (.refl _))
theorem reach_ex {code : List (Int × Int)} {p : Nat} (hp : p < code.length + 1) : (reachL code (p : Nat)).getD code.length false = pB (Ex code p) := by
  rw [Bool.eq_iff_iff, reach_at (by omega), pB_iff, Int.toNat_natCast]
  have m : ∀ a c : Nat, ((c : Nat) : Int) ∈ nextI code (a : Nat) ↔ c ∈ nxN code a := fun a c => by rw [← next_nat, mem_natI]
  constructor
  · rintro ⟨_, _, w⟩
    unfold Ex
    generalize code.length = x at w
    induction w with
    | refl => exact .refl _
    | step _ hc ih => exact wy_snoc ih ((m _ _).1 hc)
  · intro w
    refine ⟨by omega, by omega, ?_⟩
    unfold Ex at w
    clear hp
    generalize code.length = x at w
    induction w with
    | refl => exact .refl
    | step hc _ ih => exact WayG.head ((m _ _).2 hc) ih
theorem pd_way {code : List (Int × Int)} (h : TreeR code (nrT code)) (q p : Nat) : pdB code q p = (pB (Ex code p) && !pB (p ≠ q ∧ Av (nxN code) q p code.length)) := by
  rw [Bool.eq_iff_iff, Bool.and_eq_true, Bool.not_eq_true', pB_not, pB_iff]
  unfold pdB
  rw [pB_iff, pd_iff h]
  unfold PD
  exact ⟨fun ⟨h1, h2⟩ => ⟨h1, fun h => h2 h.2⟩, fun ⟨h1, h2⟩ => ⟨h1, fun h => h2 ⟨h.from, h⟩⟩⟩
def vT (f : Fn) (x4 x5 x6 : PV) : List PV := [encF f, .ptr 0 0, .s (.bool false), i64 (f.code.length : Nat), x4, x5, x6, .junk, .junk, .junk, .junk]
theorem postWays_ok {f : Fn} (hop : ∀ i, in64 (f.code.getD i (0, 0)).1) (harg : ∀ i, in64 (f.code.getD i (0, 0)).2) : PFun E 11 [encF f] (valQ (isV (.s (.bool true)))) := by
  refine p_fun ?_
  show PTri E false [] _ [encF f, .junk, .junk, .junk, .junk, .junk, .junk, .junk, .junk, .junk, .junk] _ _
  refine s_run ?_
  refine s_run ?_
  refine s_ass (s_reg (g_run 1 ?_))
  refine prg_split (fun h => ?_) (fun h => ?_)
  · refine g_end ?_
    refine s_t (s_ass (s_reg ?_))
    refine g_call awake15_ok ?_
    rintro v rfl
    refine ⟨rfl, ?_⟩
    refine g_end ?_
    exact s_ret fin_v
  simp only [gt_iff_lt, decide_eq_false_iff_not] at h
  have hn : f.code.length ≤ 40 := by omega
  have hf : Fit f.code := ⟨by omega, hop, harg⟩
  refine g_call awake15_ok ?_
  rintro v rfl
  refine ⟨rfl, ?_⟩
  refine g_end ?_
  refine s_f (s_skip ?_)
  refine s_ass (s_run ?_)
  refine s_loop (fun p => p ≤ f.code.length + 1) (fun p => f.code.length + 1 - p) (fun p => vT f (i64 (p : Nat)) .junk .junk) (fun _ => [.cel (cellsF f)]) 0 (Nat.zero_le _) (σ := [some 0]) (wk _ [] _ _ (blks := .cons bs_cel .nil)) ?_
  intro p hp
  refine s_ass (s_run ?_)
  refine s_cond (fun h => ?_) (fun h => ?_)
  · simp only [decide_eq_true_eq] at h
    have hp1 : p < f.code.length + 1 := by omega
    refine s_skip (s_block (s_reg (g_run 1 ?_)))
    refine g_call (reach_ok hf (p : Nat)) ?_
    rintro v rfl
    refine ⟨rfl, ?_⟩
    refine g_end ?_
    have hrl := reachL_len f.code (p : Nat)
    refine s_run ?_
    refine e_loop (fun q => q ≤ f.code.length + 1) (fun q => f.code.length + 1 - q) (fun q => vT f (i64 (p : Nat)) (encB (reachL f.code (p : Nat))) (i64 (q : Nat))) (fun _ => [.cel (cellsF f)]) 0 (Nat.zero_le _) (σ := [some 0]) (wk _ [] _ _ (blks := .cons bs_cel .nil)) ?_
    intro q hq
    refine s_ass (s_run ?_)
    refine s_cond (fun h => ?_) (fun h => ?_)
    · simp only [decide_eq_true_eq] at h
      have hq1 : q < f.code.length + 1 := by omega
      refine s_skip (s_block (s_drw (g_run 1 ?_)))
      refine g_call (dominates_ok hf hq1 hp1) ?_
      rintro v ⟨hT, rfl⟩
      have hpd := pd_way hT q p
      refine ⟨rfl, ?_⟩
      refine g_run 2 ?_
      rw [reach_ex hp1]
      cases hx : pB (Ex f.code p) with
      | true =>
        rw [hx] at hpd
        refine g_run 3 ?_
        refine g_call (way_ok hf hp1 hq1) ?_
        rintro v rfl
        refine ⟨rfl, ?_⟩
        refine g_end ?_
        refine e_cond (fun h2 => ?_) (fun h2 => ?_)
        · exfalso
          rw [hpd] at h2
          simp at h2
        · refine p_skip ?_
          refine e_run ?_
          exact lp_next (q + 1) (by omega) (σ := [some 0]) (wk _ [] _ _ (blks := .cons bs_cel .nil))
      | false =>
        rw [hx] at hpd
        refine g_end ?_
        refine e_cond (fun h2 => ?_) (fun h2 => ?_)
        · exfalso
          rw [hpd] at h2
          simp at h2
        · refine p_skip ?_
          refine e_run ?_
          exact lp_next (q + 1) (by omega) (σ := [some 0]) (wk _ [] _ _ (blks := .cons bs_cel .nil))
    · refine s_exit ?_
      refine e_run ?_
      exact lp_next (p + 1) (by omega) (σ := [some 0]) (wk _ [] _ _ (blks := .cons bs_cel .nil))
  · refine s_exit ?_
    refine s_run ?_
    exact p_ret fin_v
end Go.Proofs.Ytdbehmepikhghaa.Graph
