/- Functions of graphs, by what they come to: lists held against each other, edges. Functions of graphs: edges. Functions of graphs: what follows on an address. Functions of graphs: what follows on an address, as the document tells it. PUT TOGETHER by merge.py. -/
import Derived.Test.YtollibkfagjnaaaShapeCode
import Derived.Test.YtollibkfagjnaaaPM
set_option linter.unusedVariables false
set_option linter.unusedSimpArgs false
set_option maxRecDepth 10000
namespace Go.Proofs.Ytollibkfagjnaaa.Shape.Gr
open Go.Proofs.Ytollibkfagjnaaa.AM
/-! ### Code -/
structure Fn where
  lvl : Int
  ps : List Int
  rs : List Int
  loc : Int
  stk : Int
  code : List (Int × Int)
def rowC (code : List (Int × Int)) : Nat → List PV := fun i => [.s (.int .i64 (code.getD i (0, 0)).1), .s (.int .i64 (code.getD i (0, 0)).2)]
def encC (code : List (Int × Int)) : PV := .frz 2 code.length code.length (rowC code)
def cellsF (f : Fn) : List PV := [.s (.int .u64 f.lvl), encU f.ps, encU f.rs, .s (.int .i64 f.loc), .s (.int .i64 f.stk), encC f.code]
def encF (f : Fn) : PV := .agg (cellsF f)
/-- What follows on an address, the lesser one first. -/
def nextL (code : List (Int × Int)) (a : Nat) : List Int :=
  let op := (code.getD a (0, 0)).1
  let A := (code.getD a (0, 0)).2
  let n := code.length
  if op = 43 then (if 0 ≤ A ∧ A < n then [A] else [])
  else if op = 44 then
    (if a + 1 < n then (if 0 ≤ A ∧ A < n ∧ A ≠ (a : Int) + 1 then (if A < (a : Int) + 1 then [A, (a : Int) + 1] else [(a : Int) + 1, A]) else [(a : Int) + 1])
     else if 0 ≤ A ∧ A < n then [A] else [])
  else if op = 46 then [(n : Int)]
  else if a + 1 < n then [(a : Int) + 1] else []
def nextI (code : List (Int × Int)) (a : Int) : List Int := if 0 ≤ a ∧ a < code.length then nextL code a.toNat else []
def i64 (x : Int) : PV := .s (.int .i64 x)
theorem put0 (r i : List PV) (l0 l1 b most : Int) (hb : in64 b) : PCall E [0, 1, 2, 3] 102 [i64 b, i64 most, .ptr 2 0, .ptr 1 0] [.cel r, .cel [i64 l0, i64 l1], .cel [i64 0], .cel i]
    (fun _ hp => hp = if 0 ≤ b ∧ b ≤ most then [.cel r, .cel [i64 b, i64 l1], .cel [i64 1], .cel i] else [.cel r, .cel [i64 l0, i64 l1], .cel [i64 0], .cel i]) := by
  refine p_call (fun _ _ => rfl) rfl ?_
  show PTri E false [0, 1, 2, 3] _ [i64 b, i64 most, .ptr 2 0, .ptr 1 0, .junk] _ _
  refine s_reg (g_run 1 ?_)
  refine prg_split (fun h1 => ?_) (fun h1 => ?_)
  · refine g_run 3 ?_
    refine prg_split (fun h2 => ?_) (fun h2 => ?_)
    · simp only [decide_eq_true_eq] at h1 h2
      rw [if_pos ⟨h1, h2⟩]
      refine g_end ?_
      refine e_t ?_
      refine s_run ?_
      refine e_run ?_
      exact fin rfl
    · simp only [decide_eq_true_eq, decide_eq_false_iff_not] at h1 h2
      rw [if_neg (by omega)]
      refine g_end ?_
      refine e_f ?_
      exact p_skip (fin rfl)
  · simp only [decide_eq_false_iff_not] at h1
    rw [if_neg (by omega)]
    refine g_end ?_
    refine e_f ?_
    exact p_skip (fin rfl)
theorem put1 (r i : List PV) (l0 l1 b most : Int) (hb : in64 b) : PCall E [0, 1, 2, 3] 102 [i64 b, i64 most, .ptr 2 0, .ptr 1 0] [.cel r, .cel [i64 l0, i64 l1], .cel [i64 1], .cel i]
    (fun _ hp => hp = if 0 ≤ b ∧ b ≤ most ∧ l0 ≠ b then [.cel r, .cel [i64 l0, i64 b], .cel [i64 2], .cel i] else [.cel r, .cel [i64 l0, i64 l1], .cel [i64 1], .cel i]) := by
  refine p_call (fun _ _ => rfl) rfl ?_
  show PTri E false [0, 1, 2, 3] _ [i64 b, i64 most, .ptr 2 0, .ptr 1 0, .junk] _ _
  refine s_reg (g_run 1 ?_)
  refine prg_split (fun h1 => ?_) (fun h1 => ?_)
  · refine g_run 3 ?_
    refine prg_split (fun h2 => ?_) (fun h2 => ?_)
    · simp only [decide_eq_true_eq] at h1 h2
      refine g_run 8 ?_
      refine prg_split (fun h3 => ?_) (fun h3 => ?_)
      · simp only [bne_iff_ne, ne_eq] at h3
        rw [if_pos ⟨h1, h2, h3⟩]
        refine g_end ?_
        refine e_t ?_
        refine s_run ?_
        refine e_run ?_
        exact fin rfl
      · simp only [bne_eq_false_iff_eq] at h3
        rw [if_neg (by omega)]
        refine g_end ?_
        refine e_f ?_
        exact p_skip (fin rfl)
    · simp only [decide_eq_true_eq, decide_eq_false_iff_not] at h1 h2
      rw [if_neg (by omega)]
      refine g_end ?_
      refine e_f ?_
      exact p_skip (fin rfl)
  · simp only [decide_eq_false_iff_not] at h1
    rw [if_neg (by omega)]
    refine g_end ?_
    refine e_f ?_
    exact p_skip (fin rfl)
end Go.Proofs.Ytollibkfagjnaaa.Shape.Gr

namespace Go.Proofs.Ytollibkfagjnaaa.Shape.Gr
open Go.Proofs.Ytollibkfagjnaaa.AM
/-- Code that fits. -/
structure Fit (code : List (Int × Int)) : Prop where
  len : code.length < 1000000
  op : ∀ i, in64 (code.getD i (0, 0)).1
  arg : ∀ i, in64 (code.getD i (0, 0)).2
def toQ (code : List (Int × Int)) (a : Nat) : PV → Prop := fun v => ∃ x y : Int, v = .tup [.agg [i64 x, i64 y], i64 ((nextL code a).length : Nat)] ∧ [x, y].take (nextL code a).length = nextL code a
def srt (l0 l1 : Int) (c : Nat) : List Int := if c = 2 ∧ l0 > l1 then [l1, l0] else [l0, l1]
theorem to_ok {code : List (Int × Int)} (hf : Fit code) {a : Nat} (ha : a < code.length) : PFun E 70 [encC code, i64 (a : Nat)] (valQ (toQ code a)) := by
  have f1 := hf.len
  have f2 := hf.arg a
  refine p_fun ?_
  show PTri E false [] _ [encC code, i64 (a : Nat), .junk, .junk, .junk, .junk, .junk, .junk, .junk, .junk, .junk, .junk, .junk, .junk] _ _
  refine s_run ?_
  refine s_run ?_
  refine s_run ?_
  refine s_run ?_
  refine s_run ?_
  refine s_ass (s_run ?_)
  refine s_ass (s_run ?_)
  obtain ⟨op, hop⟩ : ∃ op, (code.getD a (0, 0)).1 = op := ⟨_, rfl⟩
  obtain ⟨A, hA⟩ : ∃ A, (code.getD a (0, 0)).2 = A := ⟨_, rfl⟩
  rw [hop, hA]
  rw [hA] at f2
  refine s_cut (fun T hp => ∃ (l0 l1 : Int) (c : Nat) (x10 x11 x12 : PV), T = [encC code, i64 (a : Nat), .ptr 0 0, i64 0, .ptr 1 0, .ptr 2 0, .fn 102 [] [.ptr 2 0, .ptr 1 0], i64 ((code.length : Int) - 1), .ptr 3 0, i64 op, x10, x11, x12, .junk] ∧ hp = [.cel [i64 0, i64 0], .cel [i64 l0, i64 l1], .cel [i64 (c : Nat)], .cel [i64 op, i64 A]] ∧ c ≤ 2 ∧ (srt l0 l1 c).take c = nextL code a ∧ c = (nextL code a).length) ?_ ?_
  · refine p_block (s_run ?_)
    have hN : nextL code a = if op = 43 then (if 0 ≤ A ∧ A < code.length then [A] else [])
      else if op = 44 then (if a + 1 < code.length then (if 0 ≤ A ∧ A < code.length ∧ A ≠ (a : Int) + 1 then (if A < (a : Int) + 1 then [A, (a : Int) + 1] else [(a : Int) + 1, A]) else [(a : Int) + 1]) else if 0 ≤ A ∧ A < code.length then [A] else [])
      else if op = 46 then [(code.length : Int)] else if a + 1 < code.length then [(a : Int) + 1] else [] := by
      simp only [nextL, hop, hA]
    refine e_cond (fun h => ?_) (fun h => ?_)
    · simp only [beq_iff_eq] at h
      rw [if_pos h] at hN
      refine e_reg (g_run 2 ?_)
      refine g_icall (put0 _ _ 0 0 A ((code.length : Int) - 1) f2) ?_
      rintro v hp rfl
      by_cases hc : 0 ≤ A ∧ A ≤ (code.length : Int) - 1
      · rw [if_pos hc]
        rw [if_pos (by omega)] at hN
        refine g_end ?_
        exact ⟨rfl, A, 0, 1, _, _, _, rfl, rfl, by omega, by rw [hN]; rfl, by rw [hN]; rfl⟩
      · rw [if_neg hc]
        rw [if_neg (by omega)] at hN
        refine g_end ?_
        exact ⟨rfl, 0, 0, 0, _, _, _, rfl, rfl, by omega, by rw [hN]; rfl, by rw [hN]; rfl⟩
    · simp only [beq_eq_false_iff_ne, ne_eq] at h
      rw [if_neg h] at hN
      refine s_run ?_
      refine e_cond (fun h => ?_) (fun h => ?_)
      · simp only [beq_iff_eq] at h
        rw [if_pos h] at hN
        refine s_reg (g_run 1 ?_)
        refine g_icall (put0 _ _ 0 0 ((a : Int) + 1) ((code.length : Int) - 1) ⟨by omega, by omega⟩) ?_
        rintro v hp rfl
        by_cases hc : 0 ≤ (a : Int) + 1 ∧ (a : Int) + 1 ≤ (code.length : Int) - 1
        · rw [if_pos hc]
          rw [if_pos (by omega)] at hN
          refine g_end ?_
          refine e_reg (g_run 2 ?_)
          refine g_icall (put1 _ _ ((a : Int) + 1) 0 A ((code.length : Int) - 1) f2) ?_
          rintro v hp rfl
          by_cases hc : 0 ≤ A ∧ A ≤ (code.length : Int) - 1 ∧ (a : Int) + 1 ≠ A
          · rw [if_pos hc]
            rw [if_pos (by omega)] at hN
            refine g_end ?_
            refine ⟨rfl, (a : Int) + 1, A, 2, _, _, _, rfl, rfl, by omega, ?_, ?_⟩
            · rw [hN]
              by_cases hlt : A < (a : Int) + 1
              · rw [if_pos hlt, srt, if_pos ⟨rfl, hlt⟩]; rfl
              · rw [if_neg hlt, srt, if_neg (by omega)]; rfl
            · rw [hN]; split <;> rfl
          · rw [if_neg hc]
            rw [if_neg (by omega)] at hN
            refine g_end ?_
            exact ⟨rfl, (a : Int) + 1, 0, 1, _, _, _, rfl, rfl, by omega, by rw [hN]; rfl, by rw [hN]; rfl⟩
        · rw [if_neg hc]
          rw [if_neg (by omega)] at hN
          refine g_end ?_
          refine e_reg (g_run 2 ?_)
          refine g_icall (put0 _ _ 0 0 A ((code.length : Int) - 1) f2) ?_
          rintro v hp rfl
          by_cases hc : 0 ≤ A ∧ A ≤ (code.length : Int) - 1
          · rw [if_pos hc]
            rw [if_pos (by omega)] at hN
            refine g_end ?_
            exact ⟨rfl, A, 0, 1, _, _, _, rfl, rfl, by omega, by rw [hN]; rfl, by rw [hN]; rfl⟩
          · rw [if_neg hc]
            rw [if_neg (by omega)] at hN
            refine g_end ?_
            exact ⟨rfl, 0, 0, 0, _, _, _, rfl, rfl, by omega, by rw [hN]; rfl, by rw [hN]; rfl⟩
      · simp only [beq_eq_false_iff_ne, ne_eq] at h
        rw [if_neg h] at hN
        refine s_run ?_
        refine e_cond (fun h => ?_) (fun h => ?_)
        · simp only [beq_iff_eq] at h
          rw [if_pos h] at hN
          refine e_reg (g_run 2 ?_)
          have e1 : (code.length : Int) - 1 + 1 = code.length := by omega
          rw [e1]
          refine g_icall (put0 _ _ 0 0 (code.length : Int) (code.length : Int) ⟨by omega, by omega⟩) ?_
          rintro v hp rfl
          rw [if_pos (by omega)]
          refine g_end ?_
          exact ⟨rfl, code.length, 0, 1, _, _, _, rfl, rfl, by omega, by rw [hN]; rfl, by rw [hN]; rfl⟩
        · simp only [beq_eq_false_iff_ne, ne_eq] at h
          rw [if_neg h] at hN
          refine e_reg (g_run 1 ?_)
          refine g_icall (put0 _ _ 0 0 ((a : Int) + 1) ((code.length : Int) - 1) ⟨by omega, by omega⟩) ?_
          rintro v hp rfl
          by_cases hc : 0 ≤ (a : Int) + 1 ∧ (a : Int) + 1 ≤ (code.length : Int) - 1
          · rw [if_pos hc]
            rw [if_pos (by omega)] at hN
            refine g_end ?_
            exact ⟨rfl, (a : Int) + 1, 0, 1, _, _, _, rfl, rfl, by omega, by rw [hN]; rfl, by rw [hN]; rfl⟩
          · rw [if_neg hc]
            rw [if_neg (by omega)] at hN
            refine g_end ?_
            exact ⟨rfl, 0, 0, 0, _, _, _, rfl, rfl, by omega, by rw [hN]; rfl, by rw [hN]; rfl⟩
  · rintro T hp ⟨l0, l1, c, x10, x11, x12, rfl, rfl, hc, hN, hl⟩
    have fin_ : ∀ x y : Int, [x, y].take c = nextL code a → toQ code a (.tup [.agg [i64 x, i64 y], i64 (c : Nat)]) := fun x y h => ⟨x, y, by rw [hl], by rw [← hl]; exact h⟩
    refine s_ass (s_reg (g_run 2 ?_))
    refine prg_split (fun h1 => ?_) (fun h1 => ?_)
    · have h1' : c = 2 := by simp at h1; omega
      subst h1'
      refine g_run 5 ?_
      refine prg_split (fun h2 => ?_) (fun h2 => ?_)
      · simp only [gt_iff_lt, decide_eq_true_eq] at h2
        rw [srt, if_pos ⟨rfl, h2⟩] at hN
        refine g_end ?_
        refine s_t ?_
        refine s_run ?_
        refine d_run ?_
        exact p_ret (fin_r (fin_ l1 l0 hN))
      · simp only [gt_iff_lt, decide_eq_false_iff_not] at h2
        rw [srt, if_neg (by omega)] at hN
        refine g_end ?_
        refine s_f (s_skip ?_)
        refine d_run ?_
        exact p_ret (fin_r (fin_ l0 l1 hN))
    · have h1' : ¬ c = 2 := by
        intro e; subst e; simp at h1
      rw [srt, if_neg (by omega)] at hN
      refine g_end ?_
      refine s_f (s_skip ?_)
      refine d_run ?_
      exact p_ret (fin_r (fin_ l0 l1 hN))
end Go.Proofs.Ytollibkfagjnaaa.Shape.Gr

namespace Go.Proofs.Ytollibkfagjnaaa.Shape.Gr
open Go.Proofs.Ytollibkfagjnaaa.AM
theorem clone_ok (n k : Nat) (row : Nat → List PV) (hn : n < 100000000) : PFun E 72 [.frz 1 n k row] (valQ (isV (.frz 1 n n row))) := by
  refine p_fun ?_
  show PTri E false [] _ [.frz 1 n k row, .junk, .junk] _ _
  refine s_run ?_
  refine s_ass (s_reg ?_)
  refine prg_isnil rfl rfl fun t ht => ?_
  refine g_end ?_
  refine s_cond (fun h => ?_) (fun h => ?_)
  · have h0 : n = 0 := by cases t <;> simp_all
    subst h0
    refine s_ass (s_run ?_)
    refine s_ret ?_
    refine fin_z [] rfl ?_
    rintro v rfl
    exact .one .nilf
  · refine s_skip (s_run ?_ (hq := by simp only [room, true_and, and_true]; omega))
    refine p_ret ?_
    refine fin_z [1] rfl ?_
    rintro v rfl
    exact .one (.vecf (by decide) rfl (Nat.zero_add n) (Nat.le_refl _) (Nat.le_of_eq (Nat.zero_add n).symm) fun i hi => rfl)
theorem clip_ok (n k : Nat) (row : Nat → List PV) (hk : n ≤ k) : PFun E 71 [.frz 1 n k row] (valQ (isV (.frz 1 n n row))) := by
  refine p_fun ?_
  show PTri E false [] _ [.frz 1 n k row, .junk] _ _
  refine s_run ?_
  refine s_run ?_
  exact p_ret fin_v
theorem two_rows {x y : Int} {c : Nat} {l : List Int} (h : [x, y].take c = l) (hc : c = l.length) : ∀ i, i < l.length → (([i64 x, i64 y].drop (i * 1)).take 1) = rowI .i64 l i := by
  intro i hi
  subst h
  have h2 : ([x, y].take c).length ≤ 2 := by rw [List.length_take]; exact Nat.min_le_right _ _
  have hi2 : i = 0 ∨ i = 1 := by omega
  have hcc : i < c := by rw [List.length_take] at hi; omega
  rcases hi2 with rfl | rfl
  · obtain ⟨c', rfl⟩ : ∃ c', c = c' + 1 := ⟨c - 1, by omega⟩
    simp [rowI, i64]
  · obtain ⟨c', rfl⟩ : ∃ c', c = c' + 2 := ⟨c - 2, by omega⟩
    simp [rowI, i64]
theorem nextI_nat {code : List (Int × Int)} {a : Nat} (ha : a < code.length) : nextI code (a : Nat) = nextL code a := by
  unfold nextI
  rw [if_pos ⟨by omega, by omega⟩]
  rfl
theorem nextI_out {code : List (Int × Int)} {a : Int} (ha : ¬ (0 ≤ a ∧ a < code.length)) : nextI code a = [] := if_neg ha
theorem nextL_len (code : List (Int × Int)) (a : Nat) : (nextL code a).length ≤ 2 := by
  simp only [nextL]
  repeat' split
  all_goals simp
theorem next_ok {f : Fn} (hf : Fit f.code) (a : Int) : PFun E 32 [encF f, i64 a] (valQ (isV (encI (nextI f.code a)))) := by
  have f1 := hf.len
  refine p_fun ?_
  show PTri E false [] _ [encF f, i64 a, .junk, .junk, .junk, .junk, .junk] _ _
  refine s_run ?_
  have f3 : in64 a → True := fun _ => trivial
  refine s_ass (s_reg (g_run 1 ?_))
  refine prg_split (fun h1 => ?_) (fun h1 => ?_)
  · simp only [decide_eq_true_eq] at h1
    refine g_end ?_
    refine s_t (s_ass (s_run ?_))
    refine s_ret ?_
    refine fin_z [] rfl ?_
    rintro v rfl
    rw [nextI_out (by omega)]
    exact .one .nilf
  simp only [decide_eq_false_iff_not] at h1
  obtain ⟨a, rfl⟩ : ∃ b : Nat, a = b := ⟨a.toNat, by omega⟩
  refine g_run 5 ?_
  refine prg_split (fun h2 => ?_) (fun h2 => ?_)
  · simp only [ge_iff_le, decide_eq_true_eq] at h2
    refine g_end ?_
    refine s_t (s_ass (s_run ?_))
    refine s_ret ?_
    refine fin_z [] rfl ?_
    rintro v rfl
    rw [nextI_out (by omega)]
    exact .one .nilf
  simp only [ge_iff_le, decide_eq_false_iff_not] at h2
  have ha : a < f.code.length := by omega
  refine g_end ?_
  refine s_f (s_skip ?_)
  refine s_reg (g_run 2 ?_)
  refine g_call (to_ok hf ha) ?_
  rintro v ⟨x, y, rfl, hxy⟩
  refine ⟨rfl, ?_⟩
  refine g_end ?_
  have hl2 := nextL_len f.code a
  refine p_weak [] [1] (wk [] [1] [.junk, .junk, .junk, .junk, .fptr 1 2 (fun i => ([i64 x, i64 y].drop (i * 1)).take 1) 0 0, i64 ((nextL f.code a).length : Nat), .junk] [] (vals := ?_)) ?_
  · refine .cons (.one (.junk _)) (.cons (.one (.junk _)) (.cons (.one (.junk _)) (.cons (.one (.junk _)) (.cons (.one ?_) (.cons (.nlv rfl) (.cons (.one (.junk _)) .nil))))))
    exact .ptrf (by decide) rfl (by omega) rfl (by simp) rfl fun i hi => rfl
  refine s_reg (g_run 1 ?_)
  refine g_call (clone_ok (nextL f.code a).length 2 _ (by omega)) ?_
  rintro v rfl
  refine ⟨rfl, ?_⟩
  refine g_call (clip_ok (nextL f.code a).length (nextL f.code a).length _ (Nat.le_refl _)) ?_
  rintro v rfl
  refine ⟨rfl, ?_⟩
  refine g_end ?_
  refine p_ret ?_
  refine fin_z [] rfl ?_
  rintro v rfl
  rw [nextI_nat ha]
  exact .one (.frz rfl (Nat.le_refl _) (Nat.le_refl _) (two_rows hxy rfl))
end Go.Proofs.Ytollibkfagjnaaa.Shape.Gr

namespace Go.Proofs.Ytollibkfagjnaaa.Shape.Gr
open Go.Proofs.Ytollibkfagjnaaa.AM
end Go.Proofs.Ytollibkfagjnaaa.Shape.Gr

