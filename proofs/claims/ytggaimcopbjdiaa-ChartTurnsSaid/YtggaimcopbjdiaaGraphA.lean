/- Functions of graphs, by what they come to: lists held against each other, edges. -/
import Derived.Test.YtggaimcopbjdiaaGraphCode
import Derived.Test.YtggaimcopbjdiaaPM
set_option linter.unusedVariables false
set_option linter.unusedSimpArgs false
set_option maxRecDepth 10000
namespace Go.Proofs.Ytggaimcopbjdiaa.Graph
open Go.Proofs.Ytggaimcopbjdiaa.AM
/-! ### Code -/
structure Fn where
  lvl : Int
  ps : List Int
  rs : List Int
  loc : Int
  stk : Int
  code : List (Int × Int)
def rowC (code : List (Int × Int)) : Nat → List PV := fun i => [.s (.int .i64 (code.getD i (0, 0)).1), .s (.int .i64 (code.getD i (0, 0)).2)]
def encC (code : List (Int × Int)) : PV := .frz 2 code.length code.length (rowC code)
def cellsF (f : Fn) : List PV := [.s (.int .u64 f.lvl), encU f.ps, encU f.rs, .s (.int .i64 f.loc), .s (.int .i64 f.stk), encC f.code]
def encF (f : Fn) : PV := .agg (cellsF f)
/-- What follows on an address, the lesser one first. -/
def nextL (code : List (Int × Int)) (a : Nat) : List Int :=
  let op := (code.getD a (0, 0)).1
  let A := (code.getD a (0, 0)).2
  let n := code.length
  if op = 43 then (if 0 ≤ A ∧ A < n then [A] else [])
  else if op = 44 then
    (if a + 1 < n then (if 0 ≤ A ∧ A < n ∧ A ≠ (a : Int) + 1 then (if A < (a : Int) + 1 then [A, (a : Int) + 1] else [(a : Int) + 1, A]) else [(a : Int) + 1])
     else if 0 ≤ A ∧ A < n then [A] else [])
  else if op = 46 then [(n : Int)]
  else if a + 1 < n then [(a : Int) + 1] else []
def nextI (code : List (Int × Int)) (a : Int) : List Int := if 0 ≤ a ∧ a < code.length then nextL code a.toNat else []
def i64 (x : Int) : PV := .s (.int .i64 x)
theorem put0 (r i : List PV) (l0 l1 b most : Int) (hb : in64 b) : PCall E [0, 1, 2, 3] 60 [i64 b, i64 most, .ptr 2 0, .ptr 1 0] [.cel r, .cel [i64 l0, i64 l1], .cel [i64 0], .cel i]
    (fun _ hp => hp = if 0 ≤ b ∧ b ≤ most then [.cel r, .cel [i64 b, i64 l1], .cel [i64 1], .cel i] else [.cel r, .cel [i64 l0, i64 l1], .cel [i64 0], .cel i]) := by
  refine p_call (fun _ _ => rfl) rfl ?_
  show PTri E false [0, 1, 2, 3] _ [i64 b, i64 most, .ptr 2 0, .ptr 1 0, .junk] _ _
  refine s_reg (g_run 1 ?_)
  refine prg_split (fun h1 => ?_) (fun h1 => ?_)
  · refine g_run 3 ?_
    refine prg_split (fun h2 => ?_) (fun h2 => ?_)
    · simp only [decide_eq_true_eq] at h1 h2
      rw [if_pos ⟨h1, h2⟩]
      refine g_end ?_
      refine e_t ?_
      refine s_run ?_
      refine e_run ?_
      exact fin rfl
    · simp only [decide_eq_true_eq, decide_eq_false_iff_not] at h1 h2
      rw [if_neg (by omega)]
      refine g_end ?_
      refine e_f ?_
      exact p_skip (fin rfl)
  · simp only [decide_eq_false_iff_not] at h1
    rw [if_neg (by omega)]
    refine g_end ?_
    refine e_f ?_
    exact p_skip (fin rfl)
theorem put1 (r i : List PV) (l0 l1 b most : Int) (hb : in64 b) : PCall E [0, 1, 2, 3] 60 [i64 b, i64 most, .ptr 2 0, .ptr 1 0] [.cel r, .cel [i64 l0, i64 l1], .cel [i64 1], .cel i]
    (fun _ hp => hp = if 0 ≤ b ∧ b ≤ most ∧ l0 ≠ b then [.cel r, .cel [i64 l0, i64 b], .cel [i64 2], .cel i] else [.cel r, .cel [i64 l0, i64 l1], .cel [i64 1], .cel i]) := by
  refine p_call (fun _ _ => rfl) rfl ?_
  show PTri E false [0, 1, 2, 3] _ [i64 b, i64 most, .ptr 2 0, .ptr 1 0, .junk] _ _
  refine s_reg (g_run 1 ?_)
  refine prg_split (fun h1 => ?_) (fun h1 => ?_)
  · refine g_run 3 ?_
    refine prg_split (fun h2 => ?_) (fun h2 => ?_)
    · simp only [decide_eq_true_eq] at h1 h2
      refine g_run 8 ?_
      refine prg_split (fun h3 => ?_) (fun h3 => ?_)
      · simp only [bne_iff_ne, ne_eq] at h3
        rw [if_pos ⟨h1, h2, h3⟩]
        refine g_end ?_
        refine e_t ?_
        refine s_run ?_
        refine e_run ?_
        exact fin rfl
      · simp only [bne_eq_false_iff_eq] at h3
        rw [if_neg (by omega)]
        refine g_end ?_
        refine e_f ?_
        exact p_skip (fin rfl)
    · simp only [decide_eq_true_eq, decide_eq_false_iff_not] at h1 h2
      rw [if_neg (by omega)]
      refine g_end ?_
      refine e_f ?_
      exact p_skip (fin rfl)
  · simp only [decide_eq_false_iff_not] at h1
    rw [if_neg (by omega)]
    refine g_end ?_
    refine e_f ?_
    exact p_skip (fin rfl)
end Go.Proofs.Ytggaimcopbjdiaa.Graph
