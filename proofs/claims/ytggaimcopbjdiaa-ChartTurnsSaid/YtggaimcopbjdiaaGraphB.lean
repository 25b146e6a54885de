/- Functions of graphs: edges. -/
import Derived.Test.YtggaimcopbjdiaaGraphA
set_option linter.unusedVariables false
set_option linter.unusedSimpArgs false
set_option maxRecDepth 10000
namespace Go.Proofs.Ytggaimcopbjdiaa.Graph
open Go.Proofs.Ytggaimcopbjdiaa.AM
/-- Code that fits. -/
structure Fit (code : List (Int × Int)) : Prop where
  len : code.length < 1000000
  op : ∀ i, in64 (code.getD i (0, 0)).1
  arg : ∀ i, in64 (code.getD i (0, 0)).2
def toQ (code : List (Int × Int)) (a : Nat) : PV → Prop := fun v => ∃ x y : Int, v = .tup [.agg [i64 x, i64 y], i64 ((nextL code a).length : Nat)] ∧ [x, y].take (nextL code a).length = nextL code a
def srt (l0 l1 : Int) (c : Nat) : List Int := if c = 2 ∧ l0 > l1 then [l1, l0] else [l0, l1]
theorem to_ok {code : List (Int × Int)} (hf : Fit code) {a : Nat} (ha : a < code.length) : PFun E 45 [encC code, i64 (a : Nat)] (valQ (toQ code a)) := by
  have f1 := hf.len
  have f2 := hf.arg a
  refine p_fun ?_
  show PTri E false [] _ [encC code, i64 (a : Nat), .junk, .junk, .junk, .junk, .junk, .junk, .junk, .junk, .junk, .junk, .junk, .junk] _ _
  refine s_run ?_
  refine s_run ?_
  refine s_run ?_
  refine s_run ?_
  refine s_run ?_
  refine s_ass (s_run ?_)
  refine s_ass (s_run ?_)
  obtain ⟨op, hop⟩ : ∃ op, (code.getD a (0, 0)).1 = op := ⟨_, rfl⟩
  obtain ⟨A, hA⟩ : ∃ A, (code.getD a (0, 0)).2 = A := ⟨_, rfl⟩
  rw [hop, hA]
  rw [hA] at f2
  refine s_cut (fun T hp => ∃ (l0 l1 : Int) (c : Nat) (x10 x11 x12 : PV), T = [encC code, i64 (a : Nat), .ptr 0 0, i64 0, .ptr 1 0, .ptr 2 0, .fn 60 [] [.ptr 2 0, .ptr 1 0], i64 ((code.length : Int) - 1), .ptr 3 0, i64 op, x10, x11, x12, .junk] ∧ hp = [.cel [i64 0, i64 0], .cel [i64 l0, i64 l1], .cel [i64 (c : Nat)], .cel [i64 op, i64 A]] ∧ c ≤ 2 ∧ (srt l0 l1 c).take c = nextL code a ∧ c = (nextL code a).length) ?_ ?_
  · refine p_block (s_run ?_)
    have hN : nextL code a = if op = 43 then (if 0 ≤ A ∧ A < code.length then [A] else [])
      else if op = 44 then (if a + 1 < code.length then (if 0 ≤ A ∧ A < code.length ∧ A ≠ (a : Int) + 1 then (if A < (a : Int) + 1 then [A, (a : Int) + 1] else [(a : Int) + 1, A]) else [(a : Int) + 1]) else if 0 ≤ A ∧ A < code.length then [A] else [])
      else if op = 46 then [(code.length : Int)] else if a + 1 < code.length then [(a : Int) + 1] else [] := by
      simp only [nextL, hop, hA]
    refine e_cond (fun h => ?_) (fun h => ?_)
    · simp only [beq_iff_eq] at h
      rw [if_pos h] at hN
      refine e_reg (g_run 2 ?_)
      refine g_icall (put0 _ _ 0 0 A ((code.length : Int) - 1) f2) ?_
      rintro v hp rfl
      by_cases hc : 0 ≤ A ∧ A ≤ (code.length : Int) - 1
      · rw [if_pos hc]
        rw [if_pos (by omega)] at hN
        refine g_end ?_
        exact ⟨rfl, A, 0, 1, _, _, _, rfl, rfl, by omega, by rw [hN]; rfl, by rw [hN]; rfl⟩
      · rw [if_neg hc]
        rw [if_neg (by omega)] at hN
        refine g_end ?_
        exact ⟨rfl, 0, 0, 0, _, _, _, rfl, rfl, by omega, by rw [hN]; rfl, by rw [hN]; rfl⟩
    · simp only [beq_eq_false_iff_ne, ne_eq] at h
      rw [if_neg h] at hN
      refine s_run ?_
      refine e_cond (fun h => ?_) (fun h => ?_)
      · simp only [beq_iff_eq] at h
        rw [if_pos h] at hN
        refine s_reg (g_run 1 ?_)
        refine g_icall (put0 _ _ 0 0 ((a : Int) + 1) ((code.length : Int) - 1) ⟨by omega, by omega⟩) ?_
        rintro v hp rfl
        by_cases hc : 0 ≤ (a : Int) + 1 ∧ (a : Int) + 1 ≤ (code.length : Int) - 1
        · rw [if_pos hc]
          rw [if_pos (by omega)] at hN
          refine g_end ?_
          refine e_reg (g_run 2 ?_)
          refine g_icall (put1 _ _ ((a : Int) + 1) 0 A ((code.length : Int) - 1) f2) ?_
          rintro v hp rfl
          by_cases hc : 0 ≤ A ∧ A ≤ (code.length : Int) - 1 ∧ (a : Int) + 1 ≠ A
          · rw [if_pos hc]
            rw [if_pos (by omega)] at hN
            refine g_end ?_
            refine ⟨rfl, (a : Int) + 1, A, 2, _, _, _, rfl, rfl, by omega, ?_, ?_⟩
            · rw [hN]
              by_cases hlt : A < (a : Int) + 1
              · rw [if_pos hlt, srt, if_pos ⟨rfl, hlt⟩]; rfl
              · rw [if_neg hlt, srt, if_neg (by omega)]; rfl
            · rw [hN]; split <;> rfl
          · rw [if_neg hc]
            rw [if_neg (by omega)] at hN
            refine g_end ?_
            exact ⟨rfl, (a : Int) + 1, 0, 1, _, _, _, rfl, rfl, by omega, by rw [hN]; rfl, by rw [hN]; rfl⟩
        · rw [if_neg hc]
          rw [if_neg (by omega)] at hN
          refine g_end ?_
          refine e_reg (g_run 2 ?_)
          refine g_icall (put0 _ _ 0 0 A ((code.length : Int) - 1) f2) ?_
          rintro v hp rfl
          by_cases hc : 0 ≤ A ∧ A ≤ (code.length : Int) - 1
          · rw [if_pos hc]
            rw [if_pos (by omega)] at hN
            refine g_end ?_
            exact ⟨rfl, A, 0, 1, _, _, _, rfl, rfl, by omega, by rw [hN]; rfl, by rw [hN]; rfl⟩
          · rw [if_neg hc]
            rw [if_neg (by omega)] at hN
            refine g_end ?_
            exact ⟨rfl, 0, 0, 0, _, _, _, rfl, rfl, by omega, by rw [hN]; rfl, by rw [hN]; rfl⟩
      · simp only [beq_eq_false_iff_ne, ne_eq] at h
        rw [if_neg h] at hN
        refine s_run ?_
        refine e_cond (fun h => ?_) (fun h => ?_)
        · simp only [beq_iff_eq] at h
          rw [if_pos h] at hN
          refine e_reg (g_run 2 ?_)
          have e1 : (code.length : Int) - 1 + 1 = code.length := by omega
          rw [e1]
          refine g_icall (put0 _ _ 0 0 (code.length : Int) (code.length : Int) ⟨by omega, by omega⟩) ?_
          rintro v hp rfl
          rw [if_pos (by omega)]
          refine g_end ?_
          exact ⟨rfl, code.length, 0, 1, _, _, _, rfl, rfl, by omega, by rw [hN]; rfl, by rw [hN]; rfl⟩
        · simp only [beq_eq_false_iff_ne, ne_eq] at h
          rw [if_neg h] at hN
          refine e_reg (g_run 1 ?_)
          refine g_icall (put0 _ _ 0 0 ((a : Int) + 1) ((code.length : Int) - 1) ⟨by omega, by omega⟩) ?_
          rintro v hp rfl
          by_cases hc : 0 ≤ (a : Int) + 1 ∧ (a : Int) + 1 ≤ (code.length : Int) - 1
          · rw [if_pos hc]
            rw [if_pos (by omega)] at hN
            refine g_end ?_
            exact ⟨rfl, (a : Int) + 1, 0, 1, _, _, _, rfl, rfl, by omega, by rw [hN]; rfl, by rw [hN]; rfl⟩
          · rw [if_neg hc]
            rw [if_neg (by omega)] at hN
            refine g_end ?_
            exact ⟨rfl, 0, 0, 0, _, _, _, rfl, rfl, by omega, by rw [hN]; rfl, by rw [hN]; rfl⟩
  · rintro T hp ⟨l0, l1, c, x10, x11, x12, rfl, rfl, hc, hN, hl⟩
    have fin_ : ∀ x y : Int, [x, y].take c = nextL code a → toQ code a (.tup [.agg [i64 x, i64 y], i64 (c : Nat)]) := fun x y h => ⟨x, y, by rw [hl], by rw [← hl]; exact h⟩
    refine s_ass (s_reg (g_run 2 ?_))
    refine prg_split (fun h1 => ?_) (fun h1 => ?_)
    · have h1' : c = 2 := by simp at h1; omega
      subst h1'
      refine g_run 5 ?_
      refine prg_split (fun h2 => ?_) (fun h2 => ?_)
      · simp only [gt_iff_lt, decide_eq_true_eq] at h2
        rw [srt, if_pos ⟨rfl, h2⟩] at hN
        refine g_end ?_
        refine s_t ?_
        refine s_run ?_
        refine d_run ?_
        exact p_ret (fin_r (fin_ l1 l0 hN))
      · simp only [gt_iff_lt, decide_eq_false_iff_not] at h2
        rw [srt, if_neg (by omega)] at hN
        refine g_end ?_
        refine s_f (s_skip ?_)
        refine d_run ?_
        exact p_ret (fin_r (fin_ l0 l1 hN))
    · have h1' : ¬ c = 2 := by
        intro e; subst e; simp at h1
      rw [srt, if_neg (by omega)] at hN
      refine g_end ?_
      refine s_f (s_skip ?_)
      refine d_run ?_
      exact p_ret (fin_r (fin_ l0 l1 hN))
end Go.Proofs.Ytggaimcopbjdiaa.Graph
