/- Nearest ones, one above another, post-dominators, as told. -/
import Derived.Test.YtdbehmepikhghaaPostNr
import Derived.Test.YtdbehmepikhghaaGraphL
set_option linter.unusedVariables false
set_option linter.unusedSimpArgs false
set_option maxRecDepth 10000
namespace Go.Proofs.Ytdbehmepikhghaa.Graph
open Go.Proofs.Ytdbehmepikhghaa.AM Go.Proofs.Ytdbehmepikhghaa.Post
theorem treeE {f : Fn} (hf : Fit f.code) : PFun E 33 [encF f] (valQ fun v => TreeR f.code (nrT f.code) ∧ v = encI (treeT f.code)) := PCall.mono (tree_ok hf) fun v hp ⟨h1, h2⟩ => ⟨h1, treeV_ok h2⟩
noncomputable def c66t : ACode := match PostAwake.c66.body with
  | .seq _ (.seq _ t) => t
  | _ => .skip
noncomputable def ab6 (code : List (Int × Int)) (q : Nat) (x2 x4 : PV) : List PV := [.frz 1 (code.length + 1) (code.length + 1) (rowI .i64 (treeT code)), i64 (q : Nat), x2, .s (.bool false), x4, .junk]
def abM (pl : Nat → Nat) : Option Nat → Nat
  | none => 0
  | some c => pl c + 1
structure AbI (code : List (Int × Int)) (q p : Nat) (c : Option Nat) : Prop where
  src : ∀ d, c = some d → (nrT code d).isSome = true
  iff : Ch code.length (nrT code) p q ↔ ∃ d, c = some d ∧ Ch code.length (nrT code) d q
theorem above_tail {code : List (Int × Int)} (h : TreeR code (nrT code)) {q p : Nat} (hq : q < code.length + 1) (hs : (nrT code p).isSome = true) (x4 : PV) : PTri E false [] c66t (ab6 code q (i64 (p : Nat)) x4) [] (retQ [.tmp 3] (ansQ (isV (.s (.bool (pdB code q p)))))) := by
  obtain ⟨pl, hpl⟩ := h.up
  refine s_loop (ι := Option Nat) (fun c => AbI code q p c) (abM pl) (fun c => ab6 code q (i64 (ofN c)) .junk) (fun _ => []) (some p) ⟨fun d e => by cases e; exact hs, by simp⟩ (σ := []) (wk _ [] _ _ (vals := by (try dsimp only [ab6]); repeat' (first | exact VSubs.nil | apply VSubs.cons | exact VSub.one (VSub1.junk _) | exact VSub.nlv rfl)) (blks := .nil)) ?_
  rintro c ⟨i1, i2⟩
  unfold ab6
  refine s_ass (s_reg (g_run 1 ?_))
  cases c with
  | none =>
    refine prg_head (v' := .s (.bool false)) rfl ?_
    refine g_end ?_
    refine s_f (s_exit ?_)
    refine s_reg (g_run 1 ?_)
    refine prg_head (v' := .s (.bool (pdB code q p))) ?_ ?_
    · have : pdB code q p = false := pB_not.2 fun c => by obtain ⟨d, e, _⟩ := i2.1 c; cases e
      rw [this]
      have : ¬ ((-1 : Int) = ((q : Nat) : Int)) := by omega
      simp [ofN, this]
    refine g_end ?_
    exact p_ret fin_v
  | some c =>
    have hsc := i1 c rfl
    have hcn : c < code.length + 1 := ex_lt ((h.sm c).1 hsc)
    refine prg_head (v' := .s (.bool true)) (by simp [ofN]) ?_
    refine g_end ?_
    refine s_cond (fun h1 => ?_) (fun h1 => ?_)
    · have hne : ¬ c = q := by
        intro e; subst e; simp [ofN] at h1
      refine s_skip (p_block ?_)
      refine e_reg (g_run 2 ?_)
      rw [show (treeT code).getD c 0 = ofN (if c = code.length then none else nrT code c) from by
        rw [treeT_at hcn]; by_cases e : c = code.length <;> simp [e, ofN]]
      refine g_end ?_
      refine lp_next (if c = code.length then none else nrT code c) ⟨fun d e => ?_, i2.trans ?_⟩ (σ := []) (wk _ [] _ _ (vals := by (try dsimp only [ab6]); repeat' (first | exact VSubs.nil | apply VSubs.cons | exact VSub.one (VSub1.junk _) | exact VSub.nlv rfl)) (blks := .nil)) ?_
      · by_cases hx : c = code.length
        · rw [if_pos hx] at e; cases e
        · rw [if_neg hx] at e; exact (hpl c d hx e).2
      · constructor
        · rintro ⟨d, e, c1⟩
          cases e
          cases c1 with
          | refl _ => exact absurd rfl hne
          | step hx e t => rw [if_neg hx]; exact ⟨_, e, t⟩
        · rintro ⟨d, e, c1⟩
          by_cases hx : c = code.length
          · rw [if_pos hx] at e; cases e
          · rw [if_neg hx] at e; exact ⟨c, rfl, .step hx e c1⟩
      · by_cases hx : c = code.length
        · rw [if_pos hx]; exact Nat.succ_pos _
        · rw [if_neg hx]
          cases e : nrT code c with
          | none => exact Nat.succ_pos _
          | some d => have := (hpl c d hx e).1; show pl d + 1 < pl c + 1; omega
    · have he : c = q := by
        simp [ofN] at h1; omega
      subst he
      refine s_exit ?_
      refine s_reg (g_run 1 ?_)
      refine prg_head (v' := .s (.bool (pdB code c p))) ?_ ?_
      · have : pdB code c p = true := pB_iff.2 (i2.2 ⟨c, rfl, .refl hsc⟩)
        rw [this]
        simp [ofN]
      refine g_end ?_
      exact p_ret fin_v
theorem above_ok {code : List (Int × Int)} (hn : code.length < 1000000) (h : TreeR code (nrT code)) {q p : Nat} (hq : q < code.length + 1) (hp : p < code.length + 1) : PFun E 66 [encI (treeT code), i64 (q : Nat), i64 (p : Nat)] (valQ (isV (.s (.bool (pdB code q p))))) := by
  unfold encI
  rw [treeT_len]
  refine p_fun ?_
  show PTri E false [] PostAwake.c66.body [.frz 1 (code.length + 1) (code.length + 1) (rowI .i64 (treeT code)), i64 (q : Nat), i64 (p : Nat), .junk, .junk, .junk] _ _
  refine s_run ?_
  refine s_ass (s_reg (g_run 2 ?_))
  refine prg_head (v' := i64 (code.length : Nat)) (by unfold i64; congr 2; omega) ?_
  refine g_run 1 ?_
  refine prg_split (fun h1 => ?_) (fun h1 => ?_)
  · simp only [bne_iff_ne, ne_eq] at h1
    have hne : p ≠ code.length := fun e => h1 (by rw [e])
    refine g_run 4 ?_
    rw [show (treeT code).getD p 0 = ofN (nrT code p) by rw [treeT_at hp, if_neg hne]]
    refine g_run 1 ?_
    cases hnr : nrT code p with
    | none =>
      refine prg_head (v' := .s (.bool true)) rfl ?_
      refine g_end ?_
      refine s_t (s_ass (s_reg ?_))
      have : pdB code q p = false := pB_not.2 fun c => by have := c.src; rw [hnr] at this; cases this
      rw [this]
      refine g_end ?_
      exact s_ret fin_v
    | some b =>
      refine prg_head (v' := .s (.bool false)) (by rw [ofN_lt]; rfl) ?_
      refine g_end ?_
      refine s_f (s_skip ?_)
      exact above_tail h hq (by rw [hnr]; rfl) _
  · simp only [bne_eq_false_iff_eq] at h1
    have he : p = code.length := by omega
    refine g_end ?_
    refine s_f (s_skip ?_)
    exact above_tail h hq (by rw [he, h.ex]; rfl) _
theorem dominates_ok {f : Fn} (hf : Fit f.code) {q p : Nat} (hq : q < f.code.length + 1) (hp : p < f.code.length + 1) : PFun E 37 [encF f, i64 (q : Nat), i64 (p : Nat)] (valQ fun v => TreeR f.code (nrT f.code) ∧ v = .s (.bool (pdB f.code q p))) := by
  refine p_fun ?_
  show PTri E false [] _ [encF f, i64 (q : Nat), i64 (p : Nat), .junk, .junk, .junk] _ _
  refine s_run ?_
  refine s_run ?_
  have t1 : ∀ n : Nat, PV.s (.bool (decide (((n : Nat) : Int) ≥ 0))) = .s (.bool true) := fun n => by rw [decide_eq_true (by omega)]
  have t2 : ∀ n : Nat, n < f.code.length + 1 → PV.s (.bool (decide (((n : Nat) : Int) ≤ ((f.code.length : Nat) : Int)))) = .s (.bool true) := fun n h => by rw [decide_eq_true (by omega)]
  refine s_reg (g_run 1 ?_)
  refine prg_head (t1 q) (g_run 3 ?_)
  refine prg_head (t2 q hq) (g_run 3 ?_)
  refine prg_head (t1 p) (g_run 4 ?_)
  refine prg_head (t2 p hp) (g_run 2 ?_)
  refine g_call (treeE hf) ?_
  rintro v ⟨hT, rfl⟩
  refine ⟨rfl, ?_⟩
  refine g_run 2 ?_
  refine g_call (above_ok hf.len hT hq hp) ?_
  rintro v rfl
  refine ⟨rfl, ?_⟩
  refine g_end ?_
  exact p_ret (fin_r ⟨hT, rfl⟩)
theorem awake15_ok : PFun E 30 [] (valQ (isV (.s (.bool true)))) := by
  intro F ρ H avs hr ha
  have : avs = [] := List.eq_nil_of_length_eq_zero (by rw [← ha.len]; rfl)
  subst this
  exact runs_done (fun _ => rfl) ⟨F, ρ, [], .s (.bool true), .refl, fun _ _ _ h => h, hr, .fr (.s _), rfl, rfl⟩
end Go.Proofs.Ytdbehmepikhghaa.Graph
