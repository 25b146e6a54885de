/- Functions of graphs: what follows on an address, as the document tells it. -/
import Derived.Test.YtollibkfagjnaaaFrGrC
set_option linter.unusedVariables false
set_option linter.unusedSimpArgs false
set_option maxRecDepth 10000
namespace Go.Proofs.Ytollibkfagjnaaa.Shape.Gr
open Go.Proofs.Ytollibkfagjnaaa.AM
def outS (p q n : Int) : List Int := if p < n then (if q < n ∧ q ≠ p then [p, q] else [p]) else if q < n ∧ q ≠ p then [q] else []
def outL (p q n : Int) : List Int := if p > q then outS q p n else outS p q n
theorem rnext_ok {f : Fn} (hf : Fit f.code) (a : Int) : PFun E 65 [encF f, i64 a] (valQ (isV (encI (nextI f.code a)))) := by
  have f1 := hf.len
  refine p_fun ?_
  show PTri E false [] _ [encF f, i64 a, .junk, .junk, .junk, .junk, .junk, .junk, .junk, .junk, .junk, .junk, .junk, .junk, .junk, .junk, .junk] _ _
  refine s_run ?_
  refine s_run ?_
  refine s_run ?_
  refine s_ass (s_reg (g_run 1 ?_))
  refine prg_split (fun h1 => ?_) (fun h1 => ?_)
  · simp only [decide_eq_true_eq] at h1
    refine g_end ?_
    refine s_t (s_ass (s_run ?_))
    refine s_ret ?_
    refine fin_z [] rfl ?_
    rintro v rfl
    rw [nextI_out (by omega)]
    exact .one .nilf
  simp only [decide_eq_false_iff_not] at h1
  obtain ⟨a, rfl⟩ : ∃ b : Nat, a = b := ⟨a.toNat, by omega⟩
  refine g_run 3 ?_
  refine prg_split (fun h2 => ?_) (fun h2 => ?_)
  · simp only [ge_iff_le, decide_eq_true_eq] at h2
    refine g_end ?_
    refine s_t (s_ass (s_run ?_))
    refine s_ret ?_
    refine fin_z [] rfl ?_
    rintro v rfl
    rw [nextI_out (by omega)]
    exact .one .nilf
  simp only [ge_iff_le, decide_eq_false_iff_not] at h2
  have ha : a < f.code.length := by omega
  refine g_end ?_
  refine s_f (s_skip ?_)
  rw [nextI_nat ha]
  refine s_run ?_
  refine s_run ?_
  refine s_ass (s_run ?_)
  obtain ⟨op, hop⟩ : ∃ op, (f.code.getD a (0, 0)).1 = op := ⟨_, rfl⟩
  obtain ⟨A, hA⟩ : ∃ A, (f.code.getD a (0, 0)).2 = A := ⟨_, rfl⟩
  rw [hop]
  have f2 := hf.arg a
  rw [hA] at f2
  have hN : nextL f.code a = if op = 43 then (if 0 ≤ A ∧ A < f.code.length then [A] else [])
      else if op = 44 then (if a + 1 < f.code.length then (if 0 ≤ A ∧ A < f.code.length ∧ A ≠ (a : Int) + 1 then (if A < (a : Int) + 1 then [A, (a : Int) + 1] else [(a : Int) + 1, A]) else [(a : Int) + 1]) else if 0 ≤ A ∧ A < f.code.length then [A] else [])
      else if op = 46 then [(f.code.length : Int)] else if a + 1 < f.code.length then [(a : Int) + 1] else [] := by
    simp only [nextL, hop, hA]
  by_cases hret : op = 46
  · subst hret
    have hN' : nextL f.code a = [(f.code.length : Int)] := by rw [hN]; simp
    refine s_block (s_ass (s_run ?_))
    refine s_f ?_
    refine s_run ?_
    refine e_f ?_
    refine s_run ?_
    refine e_t ?_
    refine s_run ?_
    refine p_ret ?_
    refine fin_z [1] rfl ?_
    rintro v rfl
    rw [hN']
    exact .one (.vecf (by decide) rfl rfl (Nat.le_refl _) (Nat.le_refl _) fun i hi => by
      have : i = 0 := by simpa using hi
      subst this; rfl)
  refine s_cut (fun T hp => ∃ (p q : Int) (x8 x9 x10 x11 x12 x13 x14 x15 x16 : PV), T = [encF f, i64 (a : Nat), .ptr 0 0, .s (.slice none 0 0), .s (.slice none 0 0), i64 (f.code.length : Nat), i64 p, i64 q, x8, x9, x10, x11, x12, x13, x14, x15, x16] ∧ hp = [.cel (cellsF f)] ∧ outL p q f.code.length = nextL f.code a) ?_ ?_
  · refine p_block (s_ass (s_run ?_))
    by_cases h43 : op = 43
    · subst h43
      refine s_t ?_
      refine s_skip ?_
      refine e_t ?_
      refine s_run ?_
      refine s_ass (s_reg (g_run 6 ?_))
      rw [hA]
      rw [if_pos rfl] at hN
      refine prg_split (fun h3 => ?_) (fun h3 => ?_)
      · refine g_run 8 ?_
        rw [hA]
        refine prg_split (fun h4 => ?_) (fun h4 => ?_)
        · simp only [ge_iff_le, decide_eq_true_eq] at h3 h4
          rw [if_pos ⟨h3, h4⟩] at hN
          refine g_end ?_
          refine s_t ?_
          refine s_run ?_
          rw [hA]
          refine s_run ?_
          rw [hop]
          refine e_t ?_
          refine e_run ?_
          exact ⟨rfl, A, A, _, _, _, _, _, _, _, _, _, rfl, rfl, by rw [hN, outL, if_neg (by omega), outS, if_pos h4, if_neg (by omega)]⟩
        · simp only [ge_iff_le, decide_eq_true_eq, decide_eq_false_iff_not] at h3 h4
          rw [if_neg (by omega)] at hN
          refine g_end ?_
          refine s_f (s_skip ?_)
          refine s_run ?_
          rw [hop]
          refine e_t ?_
          refine e_run ?_
          exact ⟨rfl, f.code.length, f.code.length, _, _, _, _, _, _, _, _, _, rfl, rfl, by rw [hN, outL, if_neg (by omega), outS, if_neg (by omega), if_neg (by omega)]⟩
      · simp only [ge_iff_le, decide_eq_false_iff_not] at h3
        rw [if_neg (by omega)] at hN
        refine g_end ?_
        refine s_f (s_skip ?_)
        refine s_run ?_
        rw [hop]
        refine e_t ?_
        refine e_run ?_
        exact ⟨rfl, f.code.length, f.code.length, _, _, _, _, _, _, _, _, _, rfl, rfl, by rw [hN, outL, if_neg (by omega), outS, if_neg (by omega), if_neg (by omega)]⟩
    rw [if_neg h43] at hN
    have e43 : (op == 43) = false := by simpa using h43
    rw [e43]
    refine s_f ?_
    refine s_run ?_
    by_cases h44 : op = 44
    · subst h44
      refine e_t ?_
      refine s_run ?_
      refine s_ass (s_reg (g_run 6 ?_))
      rw [hA]
      rw [if_pos rfl] at hN
      have big : nextL f.code a = (if a + 1 < f.code.length then [(a : Int) + 1] else []) → outL ((a : Int) + 1) f.code.length f.code.length = nextL f.code a := by
        intro h
        rw [h, outL]
        split
        · omega
        · simp only [outS]
          by_cases h5 : a + 1 < f.code.length
          · rw [if_pos (by omega), if_neg (by omega), if_pos h5]
          · rw [if_neg (by omega), if_neg (by omega), if_neg h5]
      refine prg_split (fun h3 => ?_) (fun h3 => ?_)
      · refine g_run 8 ?_
        rw [hA]
        refine prg_split (fun h4 => ?_) (fun h4 => ?_)
        · simp only [ge_iff_le, decide_eq_true_eq] at h3 h4
          refine g_end ?_
          refine s_t ?_
          refine s_run ?_
          rw [hA]
          refine s_run ?_
          rw [hop]
          refine e_f ?_
          refine p_skip ?_
          refine ⟨rfl, (a : Int) + 1, A, _, _, _, _, _, _, _, _, _, rfl, rfl, ?_⟩
          rw [hN, outL]
          simp only [outS]
          by_cases h5 : a + 1 < f.code.length
          · rw [if_pos h5]
            by_cases h6 : A < (a : Int) + 1
            · rw [if_pos h6, if_pos (by omega), if_pos (by omega), if_pos (by omega), if_pos h6]
            · rw [if_neg (by omega)]
              by_cases h7 : A = (a : Int) + 1
              · rw [if_pos (by omega), if_neg (by omega), if_neg (by omega)]
              · rw [if_pos (by omega), if_pos (by omega), if_pos (by omega), if_neg h6]
          · rw [if_neg h5, if_pos (show 0 ≤ A ∧ A < (f.code.length : Int) from ⟨h3, h4⟩), if_pos (show (a : Int) + 1 > A by omega), if_pos h4, if_neg (by omega)]
        · simp only [ge_iff_le, decide_eq_true_eq, decide_eq_false_iff_not] at h3 h4
          rw [if_neg (show ¬ (0 ≤ A ∧ A < f.code.length ∧ A ≠ (a : Int) + 1) by omega), if_neg (show ¬ (0 ≤ A ∧ A < (f.code.length : Int)) by omega)] at hN
          refine g_end ?_
          refine s_f (s_skip ?_)
          refine s_run ?_
          rw [hop]
          refine e_f ?_
          refine p_skip ?_
          exact ⟨rfl, (a : Int) + 1, f.code.length, _, _, _, _, _, _, _, _, _, rfl, rfl, big hN⟩
      · simp only [ge_iff_le, decide_eq_false_iff_not] at h3
        rw [if_neg (show ¬ (0 ≤ A ∧ A < f.code.length ∧ A ≠ (a : Int) + 1) by omega), if_neg (show ¬ (0 ≤ A ∧ A < (f.code.length : Int)) by omega)] at hN
        refine g_end ?_
        refine s_f (s_skip ?_)
        refine s_run ?_
        rw [hop]
        refine e_f ?_
        refine p_skip ?_
        exact ⟨rfl, (a : Int) + 1, f.code.length, _, _, _, _, _, _, _, _, _, rfl, rfl, big hN⟩
    rw [if_neg h44, if_neg hret] at hN
    have e44 : (op == 44) = false := by simpa using h44
    have e46 : (op == 46) = false := by simpa using hret
    rw [e44]
    refine e_f ?_
    refine s_run ?_
    rw [e46]
    refine e_f ?_
    refine p_skip ?_
    refine ⟨rfl, (a : Int) + 1, (a : Int) + 1, _, _, _, _, _, _, _, _, _, rfl, rfl, ?_⟩
    rw [hN, outL, if_neg (by omega)]
    simp only [outS]
    by_cases h5 : a + 1 < f.code.length
    · rw [if_pos (by omega), if_neg (by omega), if_pos h5]
    · rw [if_neg (by omega), if_neg (by omega), if_neg h5]
  · rintro T hp ⟨p, q, x8, x9, x10, x11, x12, x13, x14, x15, x16, rfl, rfl, hout⟩
    refine s_cut (fun T hp => ∃ (p q : Int) (x8 x9 x10 x11 x12 x13 x14 x15 x16 : PV), T = [encF f, i64 (a : Nat), .ptr 0 0, .s (.slice none 0 0), .s (.slice none 0 0), i64 (f.code.length : Nat), i64 p, i64 q, x8, x9, x10, x11, x12, x13, x14, x15, x16] ∧ hp = [.cel (cellsF f)] ∧ outS p q f.code.length = nextL f.code a) ?_ ?_
    · refine s_run ?_
      refine e_cond (fun h => ?_) (fun h => ?_)
      · simp only [gt_iff_lt, decide_eq_true_eq] at h
        refine e_run ?_
        exact ⟨rfl, q, p, _, _, _, _, _, _, _, _, _, rfl, rfl, by rw [← hout, outL, if_pos h]⟩
      · simp only [gt_iff_lt, decide_eq_false_iff_not] at h
        exact p_skip ⟨rfl, p, q, _, _, _, _, _, _, _, _, _, rfl, rfl, by rw [← hout, outL, if_neg h]⟩
    rintro T hp ⟨p, q, y8, y9, y10, y11, y12, y13, y14, y15, y16, rfl, rfl, hout⟩
    -- one by one
    refine s_ass (s_run ?_)
    refine s_cond (fun h1 => ?_) (fun h1 => ?_)
    · simp only [decide_eq_true_eq] at h1
      rw [outS, if_pos h1] at hout
      refine s_run ?_ (hq := by simp only [room, true_and, and_true]; omega)
      refine s_ass (s_reg (g_run 1 ?_))
      refine prg_split (fun h2 => ?_) (fun h2 => ?_)
      · refine g_run 3 ?_
        refine prg_split (fun h3 => ?_) (fun h3 => ?_)
        · simp only [decide_eq_true_eq, bne_iff_ne, ne_eq] at h2 h3
          rw [if_pos ⟨h2, h3⟩] at hout
          refine g_end ?_
          refine s_t ?_
          refine s_run ?_ (hq := by simp only [room, true_and, and_true]; omega)
          refine s_run ?_
          refine p_ret ?_
          refine fin_z [4] rfl ?_
          rintro v rfl
          rw [← hout]
          exact .one (.vecf (by decide) rfl rfl (Nat.le_refl _) (Nat.le_refl _) fun i hi => by
            have : i = 0 ∨ i = 1 := by simp only [List.length_cons, List.length_nil] at hi; omega
            rcases this with rfl | rfl <;> rfl)
        · simp only [decide_eq_true_eq, bne_eq_false_iff_eq] at h2 h3
          rw [if_neg (by omega)] at hout
          refine g_end ?_
          refine s_f (s_skip ?_)
          refine s_run ?_
          refine p_ret ?_
          refine fin_z [2] rfl ?_
          rintro v rfl
          rw [← hout]
          exact .one (.vecf (by decide) rfl rfl (Nat.le_refl _) (Nat.le_refl _) fun i hi => by
            have : i = 0 := by simpa using hi
            subst this; rfl)
      · simp only [decide_eq_false_iff_not] at h2
        rw [if_neg (by omega)] at hout
        refine g_end ?_
        refine s_f (s_skip ?_)
        refine s_run ?_
        refine p_ret ?_
        refine fin_z [2] rfl ?_
        rintro v rfl
        rw [← hout]
        exact .one (.vecf (by decide) rfl rfl (Nat.le_refl _) (Nat.le_refl _) fun i hi => by
          have : i = 0 := by simpa using hi
          subst this; rfl)
    · simp only [decide_eq_false_iff_not] at h1
      rw [outS, if_neg h1] at hout
      refine s_skip ?_
      refine s_ass (s_reg (g_run 1 ?_))
      refine prg_split (fun h2 => ?_) (fun h2 => ?_)
      · refine g_run 3 ?_
        refine prg_split (fun h3 => ?_) (fun h3 => ?_)
        · simp only [decide_eq_true_eq, bne_iff_ne, ne_eq] at h2 h3
          rw [if_pos ⟨h2, h3⟩] at hout
          refine g_end ?_
          refine s_t ?_
          refine s_run ?_ (hq := by simp only [room, true_and, and_true]; omega)
          refine s_run ?_
          refine p_ret ?_
          refine fin_z [2] rfl ?_
          rintro v rfl
          rw [← hout]
          exact .one (.vecf (by decide) rfl rfl (Nat.le_refl _) (Nat.le_refl _) fun i hi => by
            have : i = 0 := by simpa using hi
            subst this; rfl)
        · simp only [decide_eq_true_eq, bne_eq_false_iff_eq] at h2 h3
          rw [if_neg (by omega)] at hout
          refine g_end ?_
          refine s_f (s_skip ?_)
          refine s_run ?_
          refine p_ret ?_
          refine fin_z [] rfl ?_
          rintro v rfl
          rw [← hout]
          exact .one .nilf
      · simp only [decide_eq_false_iff_not] at h2
        rw [if_neg (by omega)] at hout
        refine g_end ?_
        refine s_f (s_skip ?_)
        refine s_run ?_
        refine p_ret ?_
        refine fin_z [] rfl ?_
        rintro v rfl
        rw [← hout]
        exact .one .nilf
end Go.Proofs.Ytollibkfagjnaaa.Shape.Gr
