import Derived.Test.YtggaimcopbjdiaaGraphCode
import Derived.Test.YtggaimcopbjdiaaPM
set_option linter.unusedVariables false
set_option linter.unusedSimpArgs false
set_option maxRecDepth 10000
namespace Go.Proofs.Ytggaimcopbjdiaa.Graph
open Go.Proofs.Ytggaimcopbjdiaa.AM
structure Fn where
 lvl : Int
 ps : List Int
 rs : List Int
 loc : Int
 stk : Int
 code : List (Int × Int)
def rowC (code : List (Int × Int)) : Nat → List PV := fun i => [.s (.int .i64 (code.getD i (0, 0)).1), .s (.int .i64 (code.getD i (0, 0)).2)]
def encC (code : List (Int × Int)) : PV := .frz 2 code.length code.length (rowC code)
def cellsF (f : Fn) : List PV := [.s (.int .u64 f.lvl), encU f.ps, encU f.rs, .s (.int .i64 f.loc), .s (.int .i64 f.stk), encC f.code]
def encF (f : Fn) : PV := .agg (cellsF f)
def nextL (code : List (Int × Int)) (a : Nat) : List Int :=
 let op := (code.getD a (0, 0)).1
 let A := (code.getD a (0, 0)).2
 let n := code.length
 if op = 43 then (if 0 ≤ A ∧ A < n then [A] else [])
 else if op = 44 then
  (if a + 1 < n then (if 0 ≤ A ∧ A < n ∧ A ≠ (a : Int) + 1 then (if A < (a : Int) + 1 then [A, (a : Int) + 1] else [(a : Int) + 1, A]) else [(a : Int) + 1])
   else if 0 ≤ A ∧ A < n then [A] else [])
 else if op = 46 then [(n : Int)]
 else if a + 1 < n then [(a : Int) + 1] else []
def nextI (code : List (Int × Int)) (a : Int) : List Int := if 0 ≤ a ∧ a < code.length then nextL code a.toNat else []
def i64 (x : Int) : PV := .s (.int .i64 x)
theorem put0 (r i : List PV) (l0 l1 b most : Int) (hb : in64 b) : PCall E [0, 1, 2, 3] 60 [i64 b, i64 most, .ptr 2 0, .ptr 1 0] [.cel r, .cel [i64 l0, i64 l1], .cel [i64 0], .cel i]
  (fun _ hp => hp = if 0 ≤ b ∧ b ≤ most then [.cel r, .cel [i64 b, i64 l1], .cel [i64 1], .cel i] else [.cel r, .cel [i64 l0, i64 l1], .cel [i64 0], .cel i]) := by
 refine p_call (fun _ _ => rfl) rfl ?_
 show PTri E false [0, 1, 2, 3] _ [i64 b, i64 most, .ptr 2 0, .ptr 1 0, .junk] _ _
 refine s_reg (g_run 1 ?_)
 refine prg_split (fun h1 => ?_) (fun h1 => ?_)
 ·refine g_run 3 ?_
  refine prg_split (fun h2 => ?_) (fun h2 => ?_)
  ·simp only [decide_eq_true_eq] at h1 h2
   rw [if_pos ⟨h1, h2⟩]
   refine g_end ?_
   refine e_t ?_
   refine s_run ?_
   refine e_run ?_
   exact fin rfl
  ·simp only [decide_eq_true_eq, decide_eq_false_iff_not] at h1 h2
   rw [if_neg (by omega)]
   refine g_end ?_
   refine e_f ?_
   exact p_skip (fin rfl)
 ·simp only [decide_eq_false_iff_not] at h1
  rw [if_neg (by omega)]
  refine g_end ?_
  refine e_f ?_
  exact p_skip (fin rfl)
theorem put1 (r i : List PV) (l0 l1 b most : Int) (hb : in64 b) : PCall E [0, 1, 2, 3] 60 [i64 b, i64 most, .ptr 2 0, .ptr 1 0] [.cel r, .cel [i64 l0, i64 l1], .cel [i64 1], .cel i]
  (fun _ hp => hp = if 0 ≤ b ∧ b ≤ most ∧ l0 ≠ b then [.cel r, .cel [i64 l0, i64 b], .cel [i64 2], .cel i] else [.cel r, .cel [i64 l0, i64 l1], .cel [i64 1], .cel i]) := by
 refine p_call (fun _ _ => rfl) rfl ?_
 show PTri E false [0, 1, 2, 3] _ [i64 b, i64 most, .ptr 2 0, .ptr 1 0, .junk] _ _
 refine s_reg (g_run 1 ?_)
 refine prg_split (fun h1 => ?_) (fun h1 => ?_)
 ·refine g_run 3 ?_
  refine prg_split (fun h2 => ?_) (fun h2 => ?_)
  ·simp only [decide_eq_true_eq] at h1 h2
   refine g_run 8 ?_
   refine prg_split (fun h3 => ?_) (fun h3 => ?_)
   ·simp only [bne_iff_ne, ne_eq] at h3
    rw [if_pos ⟨h1, h2, h3⟩]
    refine g_end ?_
    refine e_t ?_
    refine s_run ?_
    refine e_run ?_
    exact fin rfl
   ·simp only [bne_eq_false_iff_eq] at h3
    rw [if_neg (by omega)]
    refine g_end ?_
    refine e_f ?_
    exact p_skip (fin rfl)
  ·simp only [decide_eq_true_eq, decide_eq_false_iff_not] at h1 h2
   rw [if_neg (by omega)]
   refine g_end ?_
   refine e_f ?_
   exact p_skip (fin rfl)
 ·simp only [decide_eq_false_iff_not] at h1
  rw [if_neg (by omega)]
  refine g_end ?_
  refine e_f ?_
  exact p_skip (fin rfl)
end Go.Proofs.Ytggaimcopbjdiaa.Graph
namespace Go.Proofs.Ytggaimcopbjdiaa.Graph
open Go.Proofs.Ytggaimcopbjdiaa.AM
structure Fit (code : List (Int × Int)) : Prop where
 len : code.length < 1000000
 op : ∀ i, in64 (code.getD i (0, 0)).1
 arg : ∀ i, in64 (code.getD i (0, 0)).2
def toQ (code : List (Int × Int)) (a : Nat) : PV → Prop := fun v => ∃ x y : Int, v = .tup [.agg [i64 x, i64 y], i64 ((nextL code a).length : Nat)] ∧ [x, y].take (nextL code a).length = nextL code a
def srt (l0 l1 : Int) (c : Nat) : List Int := if c = 2 ∧ l0 > l1 then [l1, l0] else [l0, l1]
theorem to_ok {code : List (Int × Int)} (hf : Fit code) {a : Nat} (ha : a < code.length) : PFun E 45 [encC code, i64 (a : Nat)] (valQ (toQ code a)) := by
 have f1 := hf.len
 have f2 := hf.arg a
 refine p_fun ?_
 show PTri E false [] _ [encC code, i64 (a : Nat), .junk, .junk, .junk, .junk, .junk, .junk, .junk, .junk, .junk, .junk, .junk, .junk] _ _
 refine s_run ?_
 refine s_run ?_
 refine s_run ?_
 refine s_run ?_
 refine s_run ?_
 refine s_ass (s_run ?_)
 refine s_ass (s_run ?_)
 obtain ⟨op, hop⟩ : ∃ op, (code.getD a (0, 0)).1 = op := ⟨_, rfl⟩
 obtain ⟨A, hA⟩ : ∃ A, (code.getD a (0, 0)).2 = A := ⟨_, rfl⟩
 rw [hop, hA]
 rw [hA] at f2
 refine s_cut (fun T hp => ∃ (l0 l1 : Int) (c : Nat) (x10 x11 x12 : PV), T = [encC code, i64 (a : Nat), .ptr 0 0, i64 0, .ptr 1 0, .ptr 2 0, .fn 60 [] [.ptr 2 0, .ptr 1 0], i64 ((code.length : Int) - 1), .ptr 3 0, i64 op, x10, x11, x12, .junk] ∧ hp = [.cel [i64 0, i64 0], .cel [i64 l0, i64 l1], .cel [i64 (c : Nat)], .cel [i64 op, i64 A]] ∧ c ≤ 2 ∧ (srt l0 l1 c).take c = nextL code a ∧ c = (nextL code a).length) ?_ ?_
 ·refine p_block (s_run ?_)
  have hN : nextL code a = if op = 43 then (if 0 ≤ A ∧ A < code.length then [A] else [])
   else if op = 44 then (if a + 1 < code.length then (if 0 ≤ A ∧ A < code.length ∧ A ≠ (a : Int) + 1 then (if A < (a : Int) + 1 then [A, (a : Int) + 1] else [(a : Int) + 1, A]) else [(a : Int) + 1]) else if 0 ≤ A ∧ A < code.length then [A] else [])
   else if op = 46 then [(code.length : Int)] else if a + 1 < code.length then [(a : Int) + 1] else [] := by
   simp only [nextL, hop, hA]
  refine e_cond (fun h => ?_) (fun h => ?_)
  ·simp only [beq_iff_eq] at h
   rw [if_pos h] at hN
   refine e_reg (g_run 2 ?_)
   refine g_icall (put0 _ _ 0 0 A ((code.length : Int) - 1) f2) ?_
   rintro v hp rfl
   by_cases hc : 0 ≤ A ∧ A ≤ (code.length : Int) - 1
   ·rw [if_pos hc]
    rw [if_pos (by omega)] at hN
    refine g_end ?_
    exact ⟨rfl, A, 0, 1, _, _, _, rfl, rfl, by omega, by rw [hN]; rfl, by rw [hN]; rfl⟩
   ·rw [if_neg hc]
    rw [if_neg (by omega)] at hN
    refine g_end ?_
    exact ⟨rfl, 0, 0, 0, _, _, _, rfl, rfl, by omega, by rw [hN]; rfl, by rw [hN]; rfl⟩
  ·simp only [beq_eq_false_iff_ne, ne_eq] at h
   rw [if_neg h] at hN
   refine s_run ?_
   refine e_cond (fun h => ?_) (fun h => ?_)
   ·simp only [beq_iff_eq] at h
    rw [if_pos h] at hN
    refine s_reg (g_run 1 ?_)
    refine g_icall (put0 _ _ 0 0 ((a : Int) + 1) ((code.length : Int) - 1) ⟨by omega, by omega⟩) ?_
    rintro v hp rfl
    by_cases hc : 0 ≤ (a : Int) + 1 ∧ (a : Int) + 1 ≤ (code.length : Int) - 1
    ·rw [if_pos hc]
     rw [if_pos (by omega)] at hN
     refine g_end ?_
     refine e_reg (g_run 2 ?_)
     refine g_icall (put1 _ _ ((a : Int) + 1) 0 A ((code.length : Int) - 1) f2) ?_
     rintro v hp rfl
     by_cases hc : 0 ≤ A ∧ A ≤ (code.length : Int) - 1 ∧ (a : Int) + 1 ≠ A
     ·rw [if_pos hc]
      rw [if_pos (by omega)] at hN
      refine g_end ?_
      refine ⟨rfl, (a : Int) + 1, A, 2, _, _, _, rfl, rfl, by omega, ?_, ?_⟩
      ·rw [hN]
       by_cases hlt : A < (a : Int) + 1
       ·rw [if_pos hlt, srt, if_pos ⟨rfl, hlt⟩]; rfl
       ·rw [if_neg hlt, srt, if_neg (by omega)]; rfl
      ·rw [hN]; split <;> rfl
     ·rw [if_neg hc]
      rw [if_neg (by omega)] at hN
      refine g_end ?_
      exact ⟨rfl, (a : Int) + 1, 0, 1, _, _, _, rfl, rfl, by omega, by rw [hN]; rfl, by rw [hN]; rfl⟩
    ·rw [if_neg hc]
     rw [if_neg (by omega)] at hN
     refine g_end ?_
     refine e_reg (g_run 2 ?_)
     refine g_icall (put0 _ _ 0 0 A ((code.length : Int) - 1) f2) ?_
     rintro v hp rfl
     by_cases hc : 0 ≤ A ∧ A ≤ (code.length : Int) - 1
     ·rw [if_pos hc]
      rw [if_pos (by omega)] at hN
      refine g_end ?_
      exact ⟨rfl, A, 0, 1, _, _, _, rfl, rfl, by omega, by rw [hN]; rfl, by rw [hN]; rfl⟩
     ·rw [if_neg hc]
      rw [if_neg (by omega)] at hN
      refine g_end ?_
      exact ⟨rfl, 0, 0, 0, _, _, _, rfl, rfl, by omega, by rw [hN]; rfl, by rw [hN]; rfl⟩
   ·simp only [beq_eq_false_iff_ne, ne_eq] at h
    rw [if_neg h] at hN
    refine s_run ?_
    refine e_cond (fun h => ?_) (fun h => ?_)
    ·simp only [beq_iff_eq] at h
     rw [if_pos h] at hN
     refine e_reg (g_run 2 ?_)
     have e1 : (code.length : Int) - 1 + 1 = code.length := by omega
     rw [e1]
     refine g_icall (put0 _ _ 0 0 (code.length : Int) (code.length : Int) ⟨by omega, by omega⟩) ?_
     rintro v hp rfl
     rw [if_pos (by omega)]
     refine g_end ?_
     exact ⟨rfl, code.length, 0, 1, _, _, _, rfl, rfl, by omega, by rw [hN]; rfl, by rw [hN]; rfl⟩
    ·simp only [beq_eq_false_iff_ne, ne_eq] at h
     rw [if_neg h] at hN
     refine e_reg (g_run 1 ?_)
     refine g_icall (put0 _ _ 0 0 ((a : Int) + 1) ((code.length : Int) - 1) ⟨by omega, by omega⟩) ?_
     rintro v hp rfl
     by_cases hc : 0 ≤ (a : Int) + 1 ∧ (a : Int) + 1 ≤ (code.length : Int) - 1
     ·rw [if_pos hc]
      rw [if_pos (by omega)] at hN
      refine g_end ?_
      exact ⟨rfl, (a : Int) + 1, 0, 1, _, _, _, rfl, rfl, by omega, by rw [hN]; rfl, by rw [hN]; rfl⟩
     ·rw [if_neg hc]
      rw [if_neg (by omega)] at hN
      refine g_end ?_
      exact ⟨rfl, 0, 0, 0, _, _, _, rfl, rfl, by omega, by rw [hN]; rfl, by rw [hN]; rfl⟩
 ·rintro T hp ⟨l0, l1, c, x10, x11, x12, rfl, rfl, hc, hN, hl⟩
  have fin_ : ∀ x y : Int, [x, y].take c = nextL code a → toQ code a (.tup [.agg [i64 x, i64 y], i64 (c : Nat)]) := fun x y h => ⟨x, y, by rw [hl], by rw [← hl]; exact h⟩
  refine s_ass (s_reg (g_run 2 ?_))
  refine prg_split (fun h1 => ?_) (fun h1 => ?_)
  ·have h1' : c = 2 := by simp at h1; omega
   subst h1'
   refine g_run 5 ?_
   refine prg_split (fun h2 => ?_) (fun h2 => ?_)
   ·simp only [gt_iff_lt, decide_eq_true_eq] at h2
    rw [srt, if_pos ⟨rfl, h2⟩] at hN
    refine g_end ?_
    refine s_t ?_
    refine s_run ?_
    refine d_run ?_
    exact p_ret (fin_r (fin_ l1 l0 hN))
   ·simp only [gt_iff_lt, decide_eq_false_iff_not] at h2
    rw [srt, if_neg (by omega)] at hN
    refine g_end ?_
    refine s_f (s_skip ?_)
    refine d_run ?_
    exact p_ret (fin_r (fin_ l0 l1 hN))
  ·have h1' : ¬ c = 2 := by
    intro e; subst e; simp at h1
   rw [srt, if_neg (by omega)] at hN
   refine g_end ?_
   refine s_f (s_skip ?_)
   refine d_run ?_
   exact p_ret (fin_r (fin_ l0 l1 hN))
end Go.Proofs.Ytggaimcopbjdiaa.Graph
namespace Go.Proofs.Ytggaimcopbjdiaa.Graph
open Go.Proofs.Ytggaimcopbjdiaa.AM
theorem clone_ok (n k : Nat) (row : Nat → List PV) (hn : n < 100000000) : PFun E 46 [.frz 1 n k row] (valQ (isV (.frz 1 n n row))) := by
 refine p_fun ?_
 show PTri E false [] _ [.frz 1 n k row, .junk, .junk] _ _
 refine s_run ?_
 refine s_ass (s_reg ?_)
 refine prg_isnil rfl rfl fun t ht => ?_
 refine g_end ?_
 refine s_cond (fun h => ?_) (fun h => ?_)
 ·have h0 : n = 0 := by cases t <;> simp_all
  subst h0
  refine s_ass (s_run ?_)
  refine s_ret ?_
  refine fin_z [] rfl ?_
  rintro v rfl
  exact .one .nilf
 ·refine s_skip (s_run ?_ (hq := by simp only [room, true_and, and_true]; omega))
  refine p_ret ?_
  refine fin_z [1] rfl ?_
  rintro v rfl
  exact .one (.vecf (by decide) rfl (Nat.zero_add n) (Nat.le_refl _) (Nat.le_of_eq (Nat.zero_add n).symm) fun i hi => rfl)
theorem clip_ok (n k : Nat) (row : Nat → List PV) (hk : n ≤ k) : PFun E 44 [.frz 1 n k row] (valQ (isV (.frz 1 n n row))) := by
 refine p_fun ?_
 show PTri E false [] _ [.frz 1 n k row, .junk] _ _
 refine s_run ?_
 refine s_run ?_
 exact p_ret fin_v
theorem two_rows {x y : Int} {c : Nat} {l : List Int} (h : [x, y].take c = l) (hc : c = l.length) : ∀ i, i < l.length → (([i64 x, i64 y].drop (i * 1)).take 1) = rowI .i64 l i := by
 intro i hi
 subst h
 have h2 : ([x, y].take c).length ≤ 2 := by rw [List.length_take]; exact Nat.min_le_right _ _
 have hi2 : i = 0 ∨ i = 1 := by omega
 have hcc : i < c := by rw [List.length_take] at hi; omega
 rcases hi2 with rfl | rfl
 ·obtain ⟨c', rfl⟩ : ∃ c', c = c' + 1 := ⟨c - 1, by omega⟩
  simp [rowI, i64]
 ·obtain ⟨c', rfl⟩ : ∃ c', c = c' + 2 := ⟨c - 2, by omega⟩
  simp [rowI, i64]
theorem nextI_nat {code : List (Int × Int)} {a : Nat} (ha : a < code.length) : nextI code (a : Nat) = nextL code a := by
 unfold nextI
 rw [if_pos ⟨by omega, by omega⟩]
 rfl
theorem nextI_out {code : List (Int × Int)} {a : Int} (ha : ¬ (0 ≤ a ∧ a < code.length)) : nextI code a = [] := if_neg ha
theorem nextL_len (code : List (Int × Int)) (a : Nat) : (nextL code a).length ≤ 2 := by
 simp only [nextL]
 repeat' split
 all_goals simp
theorem next_ok {f : Fn} (hf : Fit f.code) (a : Int) : PFun E 20 [encF f, i64 a] (valQ (isV (encI (nextI f.code a)))) := by
 have f1 := hf.len
 refine p_fun ?_
 show PTri E false [] _ [encF f, i64 a, .junk, .junk, .junk, .junk, .junk] _ _
 refine s_run ?_
 have f3 : in64 a → True := fun _ => trivial
 refine s_ass (s_reg (g_run 1 ?_))
 refine prg_split (fun h1 => ?_) (fun h1 => ?_)
 ·simp only [decide_eq_true_eq] at h1
  refine g_end ?_
  refine s_t (s_ass (s_run ?_))
  refine s_ret ?_
  refine fin_z [] rfl ?_
  rintro v rfl
  rw [nextI_out (by omega)]
  exact .one .nilf
 simp only [decide_eq_false_iff_not] at h1
 obtain ⟨a, rfl⟩ : ∃ b : Nat, a = b := ⟨a.toNat, by omega⟩
 refine g_run 5 ?_
 refine prg_split (fun h2 => ?_) (fun h2 => ?_)
 ·simp only [ge_iff_le, decide_eq_true_eq] at h2
  refine g_end ?_
  refine s_t (s_ass (s_run ?_))
  refine s_ret ?_
  refine fin_z [] rfl ?_
  rintro v rfl
  rw [nextI_out (by omega)]
  exact .one .nilf
 simp only [ge_iff_le, decide_eq_false_iff_not] at h2
 have ha : a < f.code.length := by omega
 refine g_end ?_
 refine s_f (s_skip ?_)
 refine s_reg (g_run 2 ?_)
 refine g_call (to_ok hf ha) ?_
 rintro v ⟨x, y, rfl, hxy⟩
 refine ⟨rfl, ?_⟩
 refine g_end ?_
 have hl2 := nextL_len f.code a
 refine p_weak [] [1] (wk [] [1] [.junk, .junk, .junk, .junk, .fptr 1 2 (fun i => ([i64 x, i64 y].drop (i * 1)).take 1) 0 0, i64 ((nextL f.code a).length : Nat), .junk] [] (vals := ?_)) ?_
 ·refine .cons (.one (.junk _)) (.cons (.one (.junk _)) (.cons (.one (.junk _)) (.cons (.one (.junk _)) (.cons (.one ?_) (.cons (.nlv rfl) (.cons (.one (.junk _)) .nil))))))
  exact .ptrf (by decide) rfl (by omega) rfl (by simp) rfl fun i hi => rfl
 refine s_reg (g_run 1 ?_)
 refine g_call (clone_ok (nextL f.code a).length 2 _ (by omega)) ?_
 rintro v rfl
 refine ⟨rfl, ?_⟩
 refine g_call (clip_ok (nextL f.code a).length (nextL f.code a).length _ (Nat.le_refl _)) ?_
 rintro v rfl
 refine ⟨rfl, ?_⟩
 refine g_end ?_
 refine p_ret ?_
 refine fin_z [] rfl ?_
 rintro v rfl
 rw [nextI_nat ha]
 exact .one (.frz rfl (Nat.le_refl _) (Nat.le_refl _) (two_rows hxy rfl))
end Go.Proofs.Ytggaimcopbjdiaa.Graph
namespace Go.Proofs.Ytggaimcopbjdiaa.Graph
open Go.Proofs.Ytggaimcopbjdiaa.AM
def outS (p q n : Int) : List Int := if p < n then (if q < n ∧ q ≠ p then [p, q] else [p]) else if q < n ∧ q ≠ p then [q] else []
def outL (p q n : Int) : List Int := if p > q then outS q p n else outS p q n
theorem rnext_ok {f : Fn} (hf : Fit f.code) (a : Int) : PFun E 70 [encF f, i64 a] (valQ (isV (encI (nextI f.code a)))) := by
 have f1 := hf.len
 refine p_fun ?_
 show PTri E false [] _ [encF f, i64 a, .junk, .junk, .junk, .junk, .junk, .junk, .junk, .junk, .junk, .junk, .junk, .junk, .junk, .junk, .junk] _ _
 refine s_run ?_
 refine s_run ?_
 refine s_run ?_
 refine s_ass (s_reg (g_run 1 ?_))
 refine prg_split (fun h1 => ?_) (fun h1 => ?_)
 ·simp only [decide_eq_true_eq] at h1
  refine g_end ?_
  refine s_t (s_ass (s_run ?_))
  refine s_ret ?_
  refine fin_z [] rfl ?_
  rintro v rfl
  rw [nextI_out (by omega)]
  exact .one .nilf
 simp only [decide_eq_false_iff_not] at h1
 obtain ⟨a, rfl⟩ : ∃ b : Nat, a = b := ⟨a.toNat, by omega⟩
 refine g_run 3 ?_
 refine prg_split (fun h2 => ?_) (fun h2 => ?_)
 ·simp only [ge_iff_le, decide_eq_true_eq] at h2
  refine g_end ?_
  refine s_t (s_ass (s_run ?_))
  refine s_ret ?_
  refine fin_z [] rfl ?_
  rintro v rfl
  rw [nextI_out (by omega)]
  exact .one .nilf
 simp only [ge_iff_le, decide_eq_false_iff_not] at h2
 have ha : a < f.code.length := by omega
 refine g_end ?_
 refine s_f (s_skip ?_)
 rw [nextI_nat ha]
 refine s_run ?_
 refine s_run ?_
 refine s_ass (s_run ?_)
 obtain ⟨op, hop⟩ : ∃ op, (f.code.getD a (0, 0)).1 = op := ⟨_, rfl⟩
 obtain ⟨A, hA⟩ : ∃ A, (f.code.getD a (0, 0)).2 = A := ⟨_, rfl⟩
 rw [hop]
 have f2 := hf.arg a
 rw [hA] at f2
 have hN : nextL f.code a = if op = 43 then (if 0 ≤ A ∧ A < f.code.length then [A] else [])
   else if op = 44 then (if a + 1 < f.code.length then (if 0 ≤ A ∧ A < f.code.length ∧ A ≠ (a : Int) + 1 then (if A < (a : Int) + 1 then [A, (a : Int) + 1] else [(a : Int) + 1, A]) else [(a : Int) + 1]) else if 0 ≤ A ∧ A < f.code.length then [A] else [])
   else if op = 46 then [(f.code.length : Int)] else if a + 1 < f.code.length then [(a : Int) + 1] else [] := by
  simp only [nextL, hop, hA]
 by_cases hret : op = 46
 ·subst hret
  have hN' : nextL f.code a = [(f.code.length : Int)] := by rw [hN]; simp
  refine s_block (s_ass (s_run ?_))
  refine s_f ?_
  refine s_run ?_
  refine e_f ?_
  refine s_run ?_
  refine e_t ?_
  refine s_run ?_
  refine p_ret ?_
  refine fin_z [1] rfl ?_
  rintro v rfl
  rw [hN']
  exact .one (.vecf (by decide) rfl rfl (Nat.le_refl _) (Nat.le_refl _) fun i hi => by
   have : i = 0 := by simpa using hi
   subst this; rfl)
 refine s_cut (fun T hp => ∃ (p q : Int) (x8 x9 x10 x11 x12 x13 x14 x15 x16 : PV), T = [encF f, i64 (a : Nat), .ptr 0 0, .s (.slice none 0 0), .s (.slice none 0 0), i64 (f.code.length : Nat), i64 p, i64 q, x8, x9, x10, x11, x12, x13, x14, x15, x16] ∧ hp = [.cel (cellsF f)] ∧ outL p q f.code.length = nextL f.code a) ?_ ?_
 ·refine p_block (s_ass (s_run ?_))
  by_cases h43 : op = 43
  ·subst h43
   refine s_t ?_
   refine s_skip ?_
   refine e_t ?_
   refine s_run ?_
   refine s_ass (s_reg (g_run 6 ?_))
   rw [hA]
   rw [if_pos rfl] at hN
   refine prg_split (fun h3 => ?_) (fun h3 => ?_)
   ·refine g_run 8 ?_
    rw [hA]
    refine prg_split (fun h4 => ?_) (fun h4 => ?_)
    ·simp only [ge_iff_le, decide_eq_true_eq] at h3 h4
     rw [if_pos ⟨h3, h4⟩] at hN
     refine g_end ?_
     refine s_t ?_
     refine s_run ?_
     rw [hA]
     refine s_run ?_
     rw [hop]
     refine e_t ?_
     refine e_run ?_
     exact ⟨rfl, A, A, _, _, _, _, _, _, _, _, _, rfl, rfl, by rw [hN, outL, if_neg (by omega), outS, if_pos h4, if_neg (by omega)]⟩
    ·simp only [ge_iff_le, decide_eq_true_eq, decide_eq_false_iff_not] at h3 h4
     rw [if_neg (by omega)] at hN
     refine g_end ?_
     refine s_f (s_skip ?_)
     refine s_run ?_
     rw [hop]
     refine e_t ?_
     refine e_run ?_
     exact ⟨rfl, f.code.length, f.code.length, _, _, _, _, _, _, _, _, _, rfl, rfl, by rw [hN, outL, if_neg (by omega), outS, if_neg (by omega), if_neg (by omega)]⟩
   ·simp only [ge_iff_le, decide_eq_false_iff_not] at h3
    rw [if_neg (by omega)] at hN
    refine g_end ?_
    refine s_f (s_skip ?_)
    refine s_run ?_
    rw [hop]
    refine e_t ?_
    refine e_run ?_
    exact ⟨rfl, f.code.length, f.code.length, _, _, _, _, _, _, _, _, _, rfl, rfl, by rw [hN, outL, if_neg (by omega), outS, if_neg (by omega), if_neg (by omega)]⟩
  rw [if_neg h43] at hN
  have e43 : (op == 43) = false := by simpa using h43
  rw [e43]
  refine s_f ?_
  refine s_run ?_
  by_cases h44 : op = 44
  ·subst h44
   refine e_t ?_
   refine s_run ?_
   refine s_ass (s_reg (g_run 6 ?_))
   rw [hA]
   rw [if_pos rfl] at hN
   have big : nextL f.code a = (if a + 1 < f.code.length then [(a : Int) + 1] else []) → outL ((a : Int) + 1) f.code.length f.code.length = nextL f.code a := by
    intro h
    rw [h, outL]
    split
    ·omega
    ·simp only [outS]
     by_cases h5 : a + 1 < f.code.length
     ·rw [if_pos (by omega), if_neg (by omega), if_pos h5]
     ·rw [if_neg (by omega), if_neg (by omega), if_neg h5]
   refine prg_split (fun h3 => ?_) (fun h3 => ?_)
   ·refine g_run 8 ?_
    rw [hA]
    refine prg_split (fun h4 => ?_) (fun h4 => ?_)
    ·simp only [ge_iff_le, decide_eq_true_eq] at h3 h4
     refine g_end ?_
     refine s_t ?_
     refine s_run ?_
     rw [hA]
     refine s_run ?_
     rw [hop]
     refine e_f ?_
     refine p_skip ?_
     refine ⟨rfl, (a : Int) + 1, A, _, _, _, _, _, _, _, _, _, rfl, rfl, ?_⟩
     rw [hN, outL]
     simp only [outS]
     by_cases h5 : a + 1 < f.code.length
     ·rw [if_pos h5]
      by_cases h6 : A < (a : Int) + 1
      ·rw [if_pos h6, if_pos (by omega), if_pos (by omega), if_pos (by omega), if_pos h6]
      ·rw [if_neg (by omega)]
       by_cases h7 : A = (a : Int) + 1
       ·rw [if_pos (by omega), if_neg (by omega), if_neg (by omega)]
       ·rw [if_pos (by omega), if_pos (by omega), if_pos (by omega), if_neg h6]
     ·rw [if_neg h5, if_pos (show 0 ≤ A ∧ A < (f.code.length : Int) from ⟨h3, h4⟩), if_pos (show (a : Int) + 1 > A by omega), if_pos h4, if_neg (by omega)]
    ·simp only [ge_iff_le, decide_eq_true_eq, decide_eq_false_iff_not] at h3 h4
     rw [if_neg (show ¬ (0 ≤ A ∧ A < f.code.length ∧ A ≠ (a : Int) + 1) by omega), if_neg (show ¬ (0 ≤ A ∧ A < (f.code.length : Int)) by omega)] at hN
     refine g_end ?_
     refine s_f (s_skip ?_)
     refine s_run ?_
     rw [hop]
     refine e_f ?_
     refine p_skip ?_
     exact ⟨rfl, (a : Int) + 1, f.code.length, _, _, _, _, _, _, _, _, _, rfl, rfl, big hN⟩
   ·simp only [ge_iff_le, decide_eq_false_iff_not] at h3
    rw [if_neg (show ¬ (0 ≤ A ∧ A < f.code.length ∧ A ≠ (a : Int) + 1) by omega), if_neg (show ¬ (0 ≤ A ∧ A < (f.code.length : Int)) by omega)] at hN
    refine g_end ?_
    refine s_f (s_skip ?_)
    refine s_run ?_
    rw [hop]
    refine e_f ?_
    refine p_skip ?_
    exact ⟨rfl, (a : Int) + 1, f.code.length, _, _, _, _, _, _, _, _, _, rfl, rfl, big hN⟩
  rw [if_neg h44, if_neg hret] at hN
  have e44 : (op == 44) = false := by simpa using h44
  have e46 : (op == 46) = false := by simpa using hret
  rw [e44]
  refine e_f ?_
  refine s_run ?_
  rw [e46]
  refine e_f ?_
  refine p_skip ?_
  refine ⟨rfl, (a : Int) + 1, (a : Int) + 1, _, _, _, _, _, _, _, _, _, rfl, rfl, ?_⟩
  rw [hN, outL, if_neg (by omega)]
  simp only [outS]
  by_cases h5 : a + 1 < f.code.length
  ·rw [if_pos (by omega), if_neg (by omega), if_pos h5]
  ·rw [if_neg (by omega), if_neg (by omega), if_neg h5]
 ·rintro T hp ⟨p, q, x8, x9, x10, x11, x12, x13, x14, x15, x16, rfl, rfl, hout⟩
  refine s_cut (fun T hp => ∃ (p q : Int) (x8 x9 x10 x11 x12 x13 x14 x15 x16 : PV), T = [encF f, i64 (a : Nat), .ptr 0 0, .s (.slice none 0 0), .s (.slice none 0 0), i64 (f.code.length : Nat), i64 p, i64 q, x8, x9, x10, x11, x12, x13, x14, x15, x16] ∧ hp = [.cel (cellsF f)] ∧ outS p q f.code.length = nextL f.code a) ?_ ?_
  ·refine s_run ?_
   refine e_cond (fun h => ?_) (fun h => ?_)
   ·simp only [gt_iff_lt, decide_eq_true_eq] at h
    refine e_run ?_
    exact ⟨rfl, q, p, _, _, _, _, _, _, _, _, _, rfl, rfl, by rw [← hout, outL, if_pos h]⟩
   ·simp only [gt_iff_lt, decide_eq_false_iff_not] at h
    exact p_skip ⟨rfl, p, q, _, _, _, _, _, _, _, _, _, rfl, rfl, by rw [← hout, outL, if_neg h]⟩
  rintro T hp ⟨p, q, y8, y9, y10, y11, y12, y13, y14, y15, y16, rfl, rfl, hout⟩
  -- one by one
  refine s_ass (s_run ?_)
  refine s_cond (fun h1 => ?_) (fun h1 => ?_)
  ·simp only [decide_eq_true_eq] at h1
   rw [outS, if_pos h1] at hout
   refine s_run ?_ (hq := by simp only [room, true_and, and_true]; omega)
   refine s_ass (s_reg (g_run 1 ?_))
   refine prg_split (fun h2 => ?_) (fun h2 => ?_)
   ·refine g_run 3 ?_
    refine prg_split (fun h3 => ?_) (fun h3 => ?_)
    ·simp only [decide_eq_true_eq, bne_iff_ne, ne_eq] at h2 h3
     rw [if_pos ⟨h2, h3⟩] at hout
     refine g_end ?_
     refine s_t ?_
     refine s_run ?_ (hq := by simp only [room, true_and, and_true]; omega)
     refine s_run ?_
     refine p_ret ?_
     refine fin_z [4] rfl ?_
     rintro v rfl
     rw [← hout]
     exact .one (.vecf (by decide) rfl rfl (Nat.le_refl _) (Nat.le_refl _) fun i hi => by
      have : i = 0 ∨ i = 1 := by simp only [List.length_cons, List.length_nil] at hi; omega
      rcases this with rfl | rfl <;> rfl)
    ·simp only [decide_eq_true_eq, bne_eq_false_iff_eq] at h2 h3
     rw [if_neg (by omega)] at hout
     refine g_end ?_
     refine s_f (s_skip ?_)
     refine s_run ?_
     refine p_ret ?_
     refine fin_z [2] rfl ?_
     rintro v rfl
     rw [← hout]
     exact .one (.vecf (by decide) rfl rfl (Nat.le_refl _) (Nat.le_refl _) fun i hi => by
      have : i = 0 := by simpa using hi
      subst this; rfl)
   ·simp only [decide_eq_false_iff_not] at h2
    rw [if_neg (by omega)] at hout
    refine g_end ?_
    refine s_f (s_skip ?_)
    refine s_run ?_
    refine p_ret ?_
    refine fin_z [2] rfl ?_
    rintro v rfl
    rw [← hout]
    exact .one (.vecf (by decide) rfl rfl (Nat.le_refl _) (Nat.le_refl _) fun i hi => by
     have : i = 0 := by simpa using hi
     subst this; rfl)
  ·simp only [decide_eq_false_iff_not] at h1
   rw [outS, if_neg h1] at hout
   refine s_skip ?_
   refine s_ass (s_reg (g_run 1 ?_))
   refine prg_split (fun h2 => ?_) (fun h2 => ?_)
   ·refine g_run 3 ?_
    refine prg_split (fun h3 => ?_) (fun h3 => ?_)
    ·simp only [decide_eq_true_eq, bne_iff_ne, ne_eq] at h2 h3
     rw [if_pos ⟨h2, h3⟩] at hout
     refine g_end ?_
     refine s_t ?_
     refine s_run ?_ (hq := by simp only [room, true_and, and_true]; omega)
     refine s_run ?_
     refine p_ret ?_
     refine fin_z [2] rfl ?_
     rintro v rfl
     rw [← hout]
     exact .one (.vecf (by decide) rfl rfl (Nat.le_refl _) (Nat.le_refl _) fun i hi => by
      have : i = 0 := by simpa using hi
      subst this; rfl)
    ·simp only [decide_eq_true_eq, bne_eq_false_iff_eq] at h2 h3
     rw [if_neg (by omega)] at hout
     refine g_end ?_
     refine s_f (s_skip ?_)
     refine s_run ?_
     refine p_ret ?_
     refine fin_z [] rfl ?_
     rintro v rfl
     rw [← hout]
     exact .one .nilf
   ·simp only [decide_eq_false_iff_not] at h2
    rw [if_neg (by omega)] at hout
    refine g_end ?_
    refine s_f (s_skip ?_)
    refine s_run ?_
    refine p_ret ?_
    refine fin_z [] rfl ?_
    rintro v rfl
    rw [← hout]
    exact .one .nilf
end Go.Proofs.Ytggaimcopbjdiaa.Graph
namespace Go.Proofs.Ytggaimcopbjdiaa.Graph
open Go.Proofs.Ytggaimcopbjdiaa.AM
end Go.Proofs.Ytggaimcopbjdiaa.Graph
namespace Go.Proofs.Ytggaimcopbjdiaa.Graph
open Go.Proofs.Ytggaimcopbjdiaa.AM
theorem mem_nextL {code : List (Int × Int)} {a : Nat} {op A b : Int} (hop : (code.getD a (0, 0)).1 = op) (hA : (code.getD a (0, 0)).2 = A) : b ∈ nextL code a ↔ (op = 43 ∧ 0 ≤ b ∧ b < code.length ∧ A = b) ∨ (op = 44 ∧ 0 ≤ b ∧ b < code.length ∧ (b = (a : Int) + 1 ∨ A = b)) ∨ (op = 46 ∧ b = code.length) ∨ (op ≠ 43 ∧ op ≠ 44 ∧ op ≠ 46 ∧ b < code.length ∧ b = (a : Int) + 1) := by
 simp only [nextL, hop, hA]
 by_cases h1 : op = 43
 ·rw [if_pos h1]
  split
  ·simp only [List.mem_singleton]; omega
  ·simp only [List.not_mem_nil, false_iff]; omega
 rw [if_neg h1]
 by_cases h2 : op = 44
 ·rw [if_pos h2]
  split
  ·split
   ·split
    ·simp only [List.mem_cons, List.not_mem_nil, or_false]; omega
    ·simp only [List.mem_cons, List.not_mem_nil, or_false]; omega
   ·simp only [List.mem_singleton]; omega
  ·split
   ·simp only [List.mem_singleton]; omega
   ·simp only [List.not_mem_nil, false_iff]; omega
 rw [if_neg h2]
 by_cases h3 : op = 46
 ·rw [if_pos h3]; simp only [List.mem_singleton]; omega
 rw [if_neg h3]
 split
 ·simp only [List.mem_singleton]; omega
 ·simp only [List.not_mem_nil, false_iff]; omega
theorem next_range {code : List (Int × Int)} {a : Nat} (ha : a < code.length) {b : Int} (h : b ∈ nextL code a) : 0 ≤ b ∧ b ≤ code.length := by
 rw [mem_nextL rfl rfl] at h; omega
theorem edge_ok {f : Fn} (hf : Fit f.code) (a b : Int) (hb : in64 b) : PFun E 31 [encF f, i64 a, i64 b] (valQ (isV (.s (.bool (decide (b ∈ nextI f.code a)))))) := by
 have f1 := hf.len
 have out : ¬ (0 ≤ a ∧ a < f.code.length ∧ 0 ≤ b ∧ b ≤ f.code.length) → b ∉ nextI f.code a := by
  intro h hm
  unfold nextI at hm
  split at hm
  ·next h2 =>
   have := next_range (a := a.toNat) (by omega) hm
   omega
  ·cases hm
 refine p_fun ?_
 show PTri E false [] _ [encF f, i64 a, i64 b, .junk, .junk, .junk, .junk, .junk, .junk, .junk, .junk, .junk] _ _
 refine s_run ?_
 refine s_run ?_
 refine s_ass (s_reg (g_run 1 ?_))
 refine prg_split (fun h1 => ?_) (fun h1 => ?_)
 ·simp only [decide_eq_true_eq] at h1
  rw [decide_eq_false (out (by omega))]
  refine g_end ?_
  refine s_t (s_ass (s_run ?_))
  exact s_ret fin_v
 simp only [decide_eq_false_iff_not] at h1
 refine g_run 3 ?_
 refine prg_split (fun h2 => ?_) (fun h2 => ?_)
 ·simp only [ge_iff_le, decide_eq_true_eq] at h2
  rw [decide_eq_false (out (by omega))]
  refine g_end ?_
  refine s_t (s_ass (s_run ?_))
  exact s_ret fin_v
 simp only [ge_iff_le, decide_eq_false_iff_not] at h2
 refine g_run 3 ?_
 refine prg_split (fun h3 => ?_) (fun h3 => ?_)
 ·simp only [decide_eq_true_eq] at h3
  rw [decide_eq_false (out (by omega))]
  refine g_end ?_
  refine s_t (s_ass (s_run ?_))
  exact s_ret fin_v
 simp only [decide_eq_false_iff_not] at h3
 refine g_run 4 ?_
 refine prg_split (fun h4 => ?_) (fun h4 => ?_)
 ·simp only [gt_iff_lt, decide_eq_true_eq] at h4
  rw [decide_eq_false (out (by omega))]
  refine g_end ?_
  refine s_t (s_ass (s_run ?_))
  exact s_ret fin_v
 simp only [gt_iff_lt, decide_eq_false_iff_not] at h4
 refine g_end ?_
 refine s_f (s_skip ?_)
 obtain ⟨a, rfl⟩ : ∃ b : Nat, a = b := ⟨a.toNat, by omega⟩
 have ha : a < f.code.length := by omega
 rw [nextI_nat ha]
 obtain ⟨op, hop⟩ : ∃ op, (f.code.getD a (0, 0)).1 = op := ⟨_, rfl⟩
 obtain ⟨A, hA⟩ : ∃ A, (f.code.getD a (0, 0)).2 = A := ⟨_, rfl⟩
 have hm := mem_nextL (b := b) hop hA
 refine s_run ?_
 rw [hop, hA]
 refine s_ass (s_run ?_)
 have ans : ∀ {t : Bool}, (t = true ↔ b ∈ nextL f.code a) → decide (b ∈ nextL f.code a) = t := by
  intro t h
  cases t with
  | true => exact decide_eq_true (h.1 rfl)
  | false => exact decide_eq_false fun x => by have := h.2 x; cases this
 by_cases h43 : op = 43
 ·subst h43
  refine s_block (s_run ?_)
  refine e_t ?_
  refine s_reg (g_run 1 ?_)
  refine prg_split (fun h5 => ?_) (fun h5 => ?_)
  ·simp only [decide_eq_true_eq] at h5
   refine g_end ?_
   rw [ans (t := A == b) (by rw [hm, beq_iff_eq]; omega)]
   exact p_ret fin_v
  ·simp only [decide_eq_false_iff_not] at h5
   refine g_end ?_
   rw [ans (t := false) (by rw [hm]; simp only [Bool.false_eq_true, false_iff]; omega)]
   exact p_ret fin_v
 have e43 : (op == 43) = false := by simpa using h43
 by_cases h44 : op = 44
 ·subst h44
  refine s_block (s_run ?_)
  refine e_f ?_
  refine s_run ?_
  refine e_t ?_
  refine s_reg (g_run 1 ?_)
  refine prg_split (fun h5 => ?_) (fun h5 => ?_)
  ·simp only [decide_eq_true_eq] at h5
   refine g_run 4 ?_
   refine prg_split (fun h6 => ?_) (fun h6 => ?_)
   ·simp only [beq_iff_eq] at h6
    refine g_end ?_
    rw [ans (t := true) (by rw [hm]; exact ⟨fun _ => .inr (.inl ⟨rfl, by omega, by omega, .inl h6⟩), fun _ => rfl⟩)]
    exact p_ret fin_v
   ·simp only [beq_eq_false_iff_ne, ne_eq] at h6
    refine g_end ?_
    rw [ans (t := A == b) (by rw [hm, beq_iff_eq]; omega)]
    exact p_ret fin_v
  ·simp only [decide_eq_false_iff_not] at h5
   refine g_end ?_
   rw [ans (t := false) (by rw [hm]; simp only [Bool.false_eq_true, false_iff]; omega)]
   exact p_ret fin_v
 have e44 : (op == 44) = false := by simpa using h44
 by_cases h46 : op = 46
 ·subst h46
  refine s_block (s_run ?_)
  refine e_f ?_
  refine s_run ?_
  refine e_f ?_
  refine s_run ?_
  refine e_t ?_
  refine s_run ?_
  rw [ans (t := b == (f.code.length : Int)) (by rw [hm, beq_iff_eq]; omega)]
  exact p_ret fin_v
 have e46 : (op == 46) = false := by simpa using h46
 refine s_block (s_run ?_)
 rw [e43]
 refine e_f ?_
 refine s_run ?_
 rw [e44]
 refine e_f ?_
 refine s_run ?_
 rw [e46]
 refine e_f ?_
 refine p_skip ?_
 refine s_reg (g_run 1 ?_)
 refine prg_split (fun h5 => ?_) (fun h5 => ?_)
 ·simp only [decide_eq_true_eq] at h5
  refine g_end ?_
  rw [ans (t := b == (a : Int) + 1) (by rw [hm, beq_iff_eq]; omega)]
  exact p_ret fin_v
 ·simp only [decide_eq_false_iff_not] at h5
  refine g_end ?_
  rw [ans (t := false) (by rw [hm]; simp only [Bool.false_eq_true, false_iff]; omega)]
  exact p_ret fin_v
def aheadN (code : List (Int × Int)) (a : Int) (k : Nat) : List Int := ((List.range k).filter fun b => decide (a ∈ nextI code (b : Nat))).map fun b => ((b : Nat) : Int)
def aheadI (code : List (Int × Int)) (a : Int) : List Int := aheadN code a code.length
theorem aheadN_succ (code : List (Int × Int)) (a : Int) (k : Nat) : aheadN code a (k + 1) = if a ∈ nextI code (k : Nat) then aheadN code a k ++ [((k : Nat) : Int)] else aheadN code a k := by
 unfold aheadN
 rw [List.range_succ, List.filter_append]
 by_cases h : a ∈ nextI code (k : Nat)
 ·rw [if_pos h]; simp [h]
 ·rw [if_neg h]; simp [h]
theorem aheadN_len (code : List (Int × Int)) (a : Int) (k : Nat) : (aheadN code a k).length ≤ k := by
 unfold aheadN
 rw [List.length_map]
 exact Nat.le_trans (List.length_filter_le _ _) (by simp)
end Go.Proofs.Ytggaimcopbjdiaa.Graph
namespace Go.Proofs.Ytggaimcopbjdiaa.Graph
open Go.Proofs.Ytggaimcopbjdiaa.AM
inductive WayG (nx : Nat → List Int) (s : Nat) : Nat → Prop
 | refl : WayG nx s s
 | step {b c : Nat} (h : WayG nx s b) (hc : (c : Int) ∈ nx b) : WayG nx s c
noncomputable def reachG (n : Nat) (nx : Nat → List Int) (s : Int) : List Bool := (List.range n).map fun (b : Nat) => @decide (0 ≤ s ∧ s < n ∧ WayG nx s.toNat b) (Classical.propDecidable _)
theorem reachG_len (n : Nat) (nx : Nat → List Int) (s : Int) : (reachG n nx s).length = n := by simp [reachG]
theorem reachG_at {n : Nat} {nx : Nat → List Int} {s : Int} {b : Nat} (hb : b < n) : (reachG n nx s).getD b false = true ↔ 0 ≤ s ∧ s < n ∧ WayG nx s.toNat b := by
 unfold reachG
 rw [List.getD_eq_getElem?_getD, List.getElem?_map, List.getElem?_range hb]
 simp only [Option.map_some, Option.getD_some]
 exact @decide_eq_true_iff _ (Classical.propDecidable _)
theorem bool_ext {xs ys : List Bool} (hl : xs.length = ys.length) (h : ∀ b, b < xs.length → (xs.getD b false = true ↔ ys.getD b false = true)) : xs = ys := by
 refine List.ext_getElem hl fun i h1 h2 => ?_
 have := h i h1
 simp only [List.getD_eq_getElem?_getD, List.getElem?_eq_getElem h1, List.getElem?_eq_getElem h2, Option.getD_some] at this
 cases hx : xs[i] <;> cases hy : ys[i] <;> simp_all
theorem getD_set {seen : List Bool} {c b : Nat} (hc : c < seen.length) : (seen.set c true).getD b false = if b = c then true else seen.getD b false := by
 by_cases h : b = c
 ·subst h; rw [if_pos rfl]; simp [List.getD_eq_getElem?_getD, hc]
 ·rw [if_neg h]; simp only [List.getD_eq_getElem?_getD, List.getElem?_set_ne (Ne.symm h)]
theorem count_set : ∀ {seen : List Bool} {c : Nat}, c < seen.length → seen.getD c false = false → (seen.set c true).count false + 1 = seen.count false
 | [], c, h, _ => by simp at h
 | x :: seen, 0, h, h2 => by
   have : x = false := by simpa [List.getD_eq_getElem?_getD] using h2
   subst this; simp
 | x :: seen, c + 1, h, h2 => by
   have ih := count_set (seen := seen) (c := c) (by simpa using h) (by simpa [List.getD_eq_getElem?_getD] using h2)
   simp only [List.set_cons_succ, List.count_cons]
   omega
theorem rep_false (n b : Nat) : (List.replicate n false).getD b false = false := by
 simp only [List.getD_eq_getElem?_getD, List.getElem?_replicate]; split <;> rfl
theorem getD_at {α : Type} {l : List α} {i : Nat} {d : α} (h : i < l.length) : l.getD i d = l[i] := by simp [List.getD_eq_getElem?_getD, h]
structure Srch (nx : Nat → List Int) (n s : Nat) (seen : List Bool) (todo : List Int) : Prop where
 len : seen.length = n
 way : ∀ b, b < n → seen.getD b false = true → WayG nx s b
 todo : ∀ x, x ∈ todo → ∃ b : Nat, x = b ∧ b < n ∧ seen.getD b false = true
 start : seen.getD s false = true
 start' : s < n
theorem Srch.push {nx : Nat → List Int} {n s a c : Nat} {seen : List Bool} {todo : List Int} (h : Srch nx n s seen todo) (ha : a < n) (has : seen.getD a false = true) (hc : (c : Int) ∈ nx a) (hcn : c < n) : Srch nx n s (seen.set c true) (todo ++ [(c : Int)]) := by
 have hl := h.len
 refine ⟨by simpa using h.len, fun b hb q => ?_, fun x hx => ?_, ?_, h.start'⟩
 ·rw [getD_set (by omega)] at q
  by_cases e : b = c
  ·subst e; exact .step (h.way a ha has) hc
  ·rw [if_neg e] at q; exact h.way b hb q
 ·rcases List.mem_append.1 hx with q | q
  ·obtain ⟨b, h1, h2, h3⟩ := h.todo x q
   exact ⟨b, h1, h2, by rw [getD_set (by omega)]; split; rfl; exact h3⟩
  ·exact ⟨c, by simpa using q, hcn, by rw [getD_set (by omega), if_pos rfl]⟩
 ·rw [getD_set (by omega)]; split; rfl; exact h.start
theorem Srch.done {nx : Nat → List Int} {n s : Nat} {seen : List Bool} {todo : List Int} (h : Srch nx n s seen todo) (hcl : ∀ b c : Nat, b < n → seen.getD b false = true → (c : Int) ∈ nx b → c < n ∧ seen.getD c false = true) : seen = reachG n nx (s : Nat) := by
 have hl := h.len
 refine bool_ext (by rw [reachG_len]; exact h.len) fun b hb => ?_
 have hs := h.start'
 rw [reachG_at (by omega), Int.toNat_natCast]
 constructor
 ·intro q; exact ⟨by omega, by omega, h.way b (by omega) q⟩
 ·rintro ⟨_, _, w⟩
  have : ∀ b, WayG nx s b → b < n ∧ seen.getD b false = true := by
   intro b w
   induction w with
   | refl => exact ⟨hs, h.start⟩
   | step w hc ih => exact hcl _ _ ih.1 ih.2 hc
  exact (this b w).2
theorem hmem_seen {nx : Nat → List Int} {n s a k : Nat} {seen : List Bool} {todo : List Int} (h : Srch nx n s seen todo) (ea : todo.getD k 0 = (a : Int)) (hk : k < todo.length) : seen.getD a false = true := by
 obtain ⟨b, h1, h2, h3⟩ := h.todo _ (List.getElem_mem hk)
 rw [getD_at hk, h1] at ea
 have : b = a := by omega
 subst this; exact h3
theorem none_reached {n : Nat} {nx : Nat → List Int} {s : Int} (h : ¬ (0 ≤ s ∧ s < n)) : List.replicate n false = reachG n nx s := by
 refine bool_ext (by rw [reachG_len]; simp) fun b hb => ?_
 rw [reachG_at (by simpa using hb), rep_false]
 simp only [Bool.false_eq_true, false_iff]
 exact fun x => h ⟨x.1, x.2.1⟩
def nxW (code : List (Int × Int)) (wo : Int) : Nat → List Int := fun a => (nextI code (a : Nat)).filter fun c => decide (c ≠ wo)
theorem next_lt {code : List (Int × Int)} {a : Int} {c : Int} (h : c ∈ nextI code a) : ∃ k : Nat, c = k ∧ k < code.length + 1 := by
 unfold nextI at h
 split at h
 ·next h2 =>
  have := next_range (a := a.toNat) (by omega) h
  exact ⟨c.toNat, by omega, by omega⟩
 ·cases h
noncomputable def withoutL (code : List (Int × Int)) (s wo : Int) : List Bool := if s = wo then List.replicate (code.length + 1) false else reachG (code.length + 1) (nxW code wo) s
theorem nextI_len (code : List (Int × Int)) (a : Int) : (nextI code a).length ≤ 2 := by
 unfold nextI
 split
 ·exact nextL_len _ _
 ·simp
theorem rwithout_ok {f : Fn} (hf : Fit f.code) (s wo : Int) (hs : in64 s) (hw : in64 wo) : PFun E 71 [encF f, i64 s, i64 wo] (valQ (isV (encB (withoutL f.code s wo)))) := by
 have f1 := hf.len
 obtain ⟨n, hn⟩ : ∃ n, f.code.length = n := ⟨_, rfl⟩
 rw [hn] at f1
 refine p_fun ?_
 show PTri E false [] _ [encF f, i64 s, i64 wo, .junk, .junk, .junk, .junk, .junk, .junk, .junk, .junk, .junk, .junk, .junk, .junk] _ _
 refine s_run ?_
 refine s_run ?_ (hq := by simp only [in64, and_true, true_and]; omega)
 rw [hn]
 refine s_run ?_ (hq := by simp only [and_true, true_and]; omega)
 have hout : ∀ {hp : PH} {T : List PV}, (s = wo ∨ ¬ (0 ≤ s ∧ s < (n + 1 : Nat))) → withoutL f.code s wo = List.replicate (n + 1) false := by
  intro hp T h
  unfold withoutL
  rw [hn]
  split
  ·rfl
  ·exact (none_reached (by omega)).symm
 refine s_ass (s_reg (g_run 1 ?_))
 refine prg_split (fun h1 => ?_) (fun h1 => ?_)
 ·simp only [decide_eq_true_eq] at h1
  refine g_end ?_
  refine s_t (s_ass (s_run ?_))
  refine s_ret (fin_z [1] rfl ?_)
  rintro v rfl
  rw [hout (hp := []) (T := []) (.inr (by omega))]
  exact .one (.vecf (by decide) rfl (by simp) (Nat.le_refl _) (by simp) fun i hi => rowB_rep _ _)
 simp only [decide_eq_false_iff_not] at h1
 refine g_run 3 ?_
 refine prg_split (fun h2 => ?_) (fun h2 => ?_)
 ·simp only [ge_iff_le, decide_eq_true_eq] at h2
  refine g_end ?_
  refine s_t (s_ass (s_run ?_))
  refine s_ret (fin_z [1] rfl ?_)
  rintro v rfl
  rw [hout (hp := []) (T := []) (.inr (by omega))]
  exact .one (.vecf (by decide) rfl (by simp) (Nat.le_refl _) (by simp) fun i hi => rowB_rep _ _)
 simp only [ge_iff_le, decide_eq_false_iff_not] at h2
 refine g_run 4 ?_
 refine prg_split (fun h3 => ?_) (fun h3 => ?_)
 ·simp only [beq_iff_eq] at h3
  refine g_end ?_
  refine s_t (s_ass (s_run ?_))
  refine s_ret (fin_z [1] rfl ?_)
  rintro v rfl
  rw [hout (hp := []) (T := []) (.inl h3)]
  exact .one (.vecf (by decide) rfl (by simp) (Nat.le_refl _) (by simp) fun i hi => rowB_rep _ _)
 simp only [beq_eq_false_iff_ne, ne_eq] at h3
 obtain ⟨s, rfl⟩ : ∃ b : Nat, s = b := ⟨s.toNat, by omega⟩
 refine g_end ?_
 refine s_f (s_skip ?_)
 refine s_run ?_
 refine s_run ?_
 refine s_ass (s_run ?_)
 -- the search
 have h3' : ((s : Nat) : Int) ≠ wo := h3
 refine s_loop (ι := List Bool × List Int × Nat) (fun st => Srch (nxW f.code wo) (n + 1) s st.1 st.2.1 ∧ st.2.2 ≤ st.2.1.length ∧ st.2.1.length + st.1.count false = n + 1 ∧ (∀ b, b < n + 1 → st.1.getD b false = true → (b : Int) ∈ st.2.1) ∧ ∀ j, j < st.2.2 → ∀ a c : Nat, st.2.1.getD j 0 = (a : Int) → (c : Int) ∈ nxW f.code wo a → st.1.getD c false = true)
  (fun st => n + 1 - st.2.2) (fun st => [encF f, i64 s, i64 wo, .ptr 0 0, .s (.slice none 0 0), i64 ((n : Int) + 1), .vec 1 1 (n + 1), .vec 1 2 st.2.1.length, i64 (st.2.2 : Nat), .junk, .junk, .junk, .junk, .junk, .junk])
  (fun st => [.cel (cellsF f), .vec 1 (n + 1) (rowB st.1) true, .vec 1 st.2.1.length (rowI .i64 st.2.1) true]) ((List.replicate (n + 1) false).set s true, [(s : Int)], 0) ?_ (σ := [some 0, some 1, some 2]) (wk _ [] _ _ (blks := .cons bs_cel (.cons (bs_vec rfl fun i hi => ?_) (.cons (bs_vec rfl fun i hi => row1_one (en := i64) (d := 0) (x := (s : Int)) i hi) .nil)))) ?_
 ·refine ⟨⟨by simp, fun b hb q => ?_, fun x hx => ⟨s, by simpa using hx, by omega, by rw [getD_set (by simp; omega), if_pos rfl]⟩, by rw [getD_set (by simp; omega), if_pos rfl], by omega⟩, Nat.zero_le _, ?_, fun b hb q => ?_, fun j hj => absurd hj (Nat.not_lt_zero _)⟩
  ·rw [getD_set (by simp; omega), rep_false] at q
   split at q
   ·next e => subst e; exact .refl
   ·cases q
  ·have := count_set (seen := List.replicate (n + 1) false) (c := s) (by simp; omega) (rep_false _ _)
   rw [List.count_replicate_self] at this
   simp only [List.length_singleton]; omega
  ·rw [getD_set (by simp; omega), rep_false] at q
   split at q
   ·next e => subst e; simp
   ·cases q
 ·rw [rowB_eq]
  have := row1_set (en := fun b => PV.s (.bool b)) (d := false) (xs := List.replicate (n + 1) false) (c := s) (x := true) (.s (.bool true)) rfl (i := i) (by simpa using hi)
  rw [← this, ← rowB_eq, ← rowB_rep]
  rfl
 rintro ⟨seen, todo, k⟩ ⟨hS, hk, hcnt, hmem, hcl⟩
 simp only at hS hk hcnt hmem hcl
 have hlen := hS.len
 refine s_ass (s_run ?_)
 refine s_cond (fun h => ?_) (fun h => ?_)
 ·simp only [decide_eq_true_eq] at h
  have hkl : k < todo.length := by omega
  obtain ⟨a, ea, han, has⟩ := hS.todo _ (List.getElem_mem hkl)
  have ea' : todo.getD k 0 = (a : Int) := by rw [getD_at hkl, ea]
  refine s_skip (s_block (s_drw (g_run 3 ?_)))
  rw [ea']
  refine g_call (rnext_ok hf (a : Nat)) ?_
  rintro v rfl
  refine ⟨rfl, ?_⟩
  refine g_end ?_
  refine s_run ?_
  obtain ⟨l, hl⟩ : ∃ l, nextI f.code (a : Nat) = l := ⟨_, rfl⟩
  have hl2 := nextI_len f.code (a : Nat)
  rw [hl] at hl2
  rw [hl]
  refine e_loop (ι := List Bool × List Int × Nat) (fun st => Srch (nxW f.code wo) (n + 1) s st.1 st.2.1 ∧ st.2.2 ≤ l.length ∧ st.2.1.length + st.1.count false = n + 1 ∧ (∀ b, b < n + 1 → st.1.getD b false = true → (b : Int) ∈ st.2.1) ∧ k < st.2.1.length ∧ st.2.1.getD k 0 = (a : Int) ∧ (∀ j, j < k → ∀ a c : Nat, st.2.1.getD j 0 = (a : Int) → (c : Int) ∈ nxW f.code wo a → st.1.getD c false = true) ∧ ∀ i, i < st.2.2 → ∀ c : Nat, l.getD i 0 = (c : Int) → (c : Int) ≠ wo → st.1.getD c false = true)
   (fun st => l.length - st.2.2) (fun st => [encF f, i64 s, i64 wo, .ptr 0 0, .s (.slice none 0 0), i64 ((n : Int) + 1), .vec 1 1 (n + 1), .vec 1 2 st.2.1.length, i64 (k : Nat), encI l, i64 (st.2.2 : Nat), .junk, .junk, .junk, .junk])
   (fun st => [.cel (cellsF f), .vec 1 (n + 1) (rowB st.1) true, .vec 1 st.2.1.length (rowI .i64 st.2.1) true]) (seen, todo, 0) ⟨hS, Nat.zero_le _, hcnt, hmem, hkl, ea', hcl, fun i hi => absurd hi (Nat.not_lt_zero _)⟩ (σ := [some 0, some 1, some 2]) (wk _ [] _ _ (blks := .cons bs_cel (.cons bs_same (.cons bs_same .nil)))) ?_
  rintro ⟨seen, todo, i⟩ ⟨hS, hi, hcnt, hmem, hkl, ea', hcl, hci⟩
  simp only at hS hi hcnt hmem hkl ea' hcl hci
  have hlen := hS.len
  refine s_ass (s_run ?_)
  refine s_cond (fun h => ?_) (fun h => ?_)
  ·simp only [decide_eq_true_eq] at h
   have hil : i < l.length := by omega
   have hmeml : l.getD i 0 ∈ l := by rw [getD_at hil]; exact List.getElem_mem hil
   have hm0 : l.getD i 0 ∈ nextI f.code (a : Nat) := by rw [hl]; exact hmeml
   obtain ⟨c, hc, hcn⟩ := next_lt hm0
   rw [hn] at hcn
   have hcnx : (c : Int) ≠ wo → (c : Int) ∈ nxW f.code wo a := fun q => List.mem_filter.2 ⟨by rw [hl, ← hc]; exact hmeml, by simpa using q⟩
   have ha' : a < n + 1 := han
   refine s_skip (s_block (s_reg (g_run 2 ?_)))
   rw [hc]
   refine g_run 3 ?_
   have keep : ((c : Int) = wo ∨ seen.getD c false = true) → ∀ i', i' < i + 1 → ∀ c' : Nat, l.getD i' 0 = (c' : Int) → (c' : Int) ≠ wo → seen.getD c' false = true := by
    intro hq i' hi' c' h1 h2
    by_cases e : i' = i
    ·subst e
     rw [hc] at h1
     have : c = c' := by omega
     subst this
     rcases hq with q | q
     ·exact absurd q h2
     ·exact q
    ·exact hci i' (by omega) c' h1 h2
   refine prg_split (fun h4 => ?_) (fun h4 => ?_)
   ·have h4' : seen.getD c false = false := by simpa using h4
    refine g_run 6 ?_
    rw [hc]
    refine prg_split (fun h5 => ?_) (fun h5 => ?_)
    ·simp only [bne_iff_ne, ne_eq] at h5
     refine g_end ?_
     refine e_t ?_
     refine s_reg (g_run 2 ?_)
     rw [hc]
     refine g_end ?_
     have htl : todo.length ≤ n + 1 := by omega
     refine e_run ?_ (hq := by simp only [room, true_and, and_true]; omega)
     rw [hc]
     refine e_run ?_
     have hlen2 : (todo ++ [(c : Int)]).length = todo.length + 1 := by simp
     have hcs := count_set (seen := seen) (c := c) (by omega) h4'
     refine lp_next (i := (seen, todo, i)) (seen.set c true, todo ++ [(c : Int)], i + 1) ⟨hS.push ha' (hmem_seen hS ea' hkl) (hcnx h5) hcn, by show i + 1 ≤ l.length; omega, by show (todo ++ [(c : Int)]).length + (seen.set c true).count false = n + 1; omega, fun b hb q => ?_, by show k < (todo ++ [(c : Int)]).length; omega, ?_, fun j hj a' c' q1 q2 => ?_, fun i' hi' c' q1 q2 => ?_⟩ (σ := [some 0, some 1, some 4]) (wk _ [] _ _ (vals := ?_) (blks := .cons bs_cel (.cons (bs_vec rfl fun i hi => ?_) (.cons (bs_vec hlen2 fun i hi => ?_) .nil))))
     ·simp only at q ⊢
      rw [getD_set (by omega)] at q
      by_cases e : b = c
      ·subst e; simp
      ·rw [if_neg e] at q; exact List.mem_append_left _ (hmem b hb q)
     ·show (todo ++ [(c : Int)]).getD k 0 = (a : Int)
      rw [List.getD_eq_getElem?_getD, List.getElem?_append_left hkl, ← List.getD_eq_getElem?_getD]; exact ea'
     ·simp only at q1 ⊢
      rw [List.getD_eq_getElem?_getD, List.getElem?_append_left (by omega), ← List.getD_eq_getElem?_getD] at q1
      have := hcl j hj a' c' q1 q2
      rw [getD_set (by omega)]; split; rfl; exact this
     ·simp only at hi' ⊢
      rw [getD_set (by omega)]
      by_cases e : c' = c
      ·rw [if_pos e]
      ·rw [if_neg e]
       by_cases e2 : i' = i
       ·subst e2; rw [hc] at q1; exact absurd (by omega) e
       ·exact hci i' (by omega) c' q1 q2
     ·exact .cons (.nlv rfl) (.cons (.nlv rfl) (.cons (.nlv rfl) (.cons (.one (.ptr rfl)) (.cons (.nlv rfl) (.cons (.nlv rfl) (.cons (.one (.vec rfl rfl)) (.cons (.one (.vec rfl hlen2.symm)) (.cons (.nlv rfl) (.cons (.nlv rfl) (.cons (.nlv rfl) (.cons (.one (.junk _)) (.cons (.one (.junk _)) (.cons (.one (.junk _)) (.cons (.one (.junk _)) .nil))))))))))))))
     ·exact row1_set (en := fun b => PV.s (.bool b)) (d := false) (x := true) (.s (.bool true)) rfl (by (try dsimp only at hi ⊢); omega)
     ·exact row1_push (en := i64) (d := 0) (x := (c : Int)) (xs := todo) (by (try dsimp only at hi ⊢); omega)
    ·simp only [bne_eq_false_iff_eq] at h5
     refine g_end ?_
     refine e_f ?_
     refine p_skip (e_run ?_)
     exact lp_next (i := (seen, todo, i)) (seen, todo, i + 1) ⟨hS, by show i + 1 ≤ l.length; omega, hcnt, hmem, hkl, ea', hcl, keep (.inl h5)⟩ (σ := [some 0, some 1, some 2]) (wk _ [] _ _ (blks := .cons bs_cel (.cons bs_same (.cons bs_same .nil))))
   ·have h4' : seen.getD c false = true := by simpa using h4
    refine g_end ?_
    refine e_f ?_
    refine p_skip (e_run ?_)
    exact lp_next (i := (seen, todo, i)) (seen, todo, i + 1) ⟨hS, by show i + 1 ≤ l.length; omega, hcnt, hmem, hkl, ea', hcl, keep (.inr h4')⟩ (σ := [some 0, some 1, some 2]) (wk _ [] _ _ (blks := .cons bs_cel (.cons bs_same (.cons bs_same .nil))))
  ·simp only [decide_eq_false_iff_not] at h
   refine s_exit ?_
   refine e_run ?_
   refine lp_next (seen, todo, k + 1) ⟨hS, by show k + 1 ≤ todo.length; omega, hcnt, hmem, fun j hj a' c' q1 q2 => ?_⟩ (σ := [some 0, some 1, some 2]) (wk _ [] _ _ (blks := .cons bs_cel (.cons bs_same (.cons bs_same .nil))))
   simp only at hj q1 ⊢
   by_cases e : j = k
   ·subst e
    rw [ea'] at q1
    have : a = a' := by omega
    subst this
    have q3 := List.mem_filter.1 q2
    rw [hl] at q3
    obtain ⟨i', hi', e'⟩ := List.mem_iff_getElem.1 q3.1
    exact hci i' (by omega) c' (by rw [getD_at hi', e']) (by simpa using q3.2)
   ·exact hcl j (by omega) a' c' q1 q2
 ·simp only [decide_eq_false_iff_not] at h
  refine s_exit ?_
  refine s_run ?_
  refine p_ret (fin_z [1] rfl ?_)
  rintro v rfl
  have hfin := hS.done fun b c hb hsb hbc => ?_
  ·have : withoutL f.code (s : Nat) wo = seen := by
    rw [hfin]; unfold withoutL; rw [if_neg h3', hn]
   rw [this]
   exact .one (.vecf (by decide) rfl hlen.symm (Nat.le_refl _) (Nat.le_of_eq hlen) fun i hi => rfl)
  ·obtain ⟨j, hj, ej⟩ := List.mem_iff_getElem.1 (hmem b hb hsb)
   have hcc := next_lt (List.mem_filter.1 hbc).1
   obtain ⟨c', e1, e2⟩ := hcc
   have : c = c' := by omega
   subst this
   exact ⟨by omega, hcl j (by omega) b c (by rw [getD_at hj, ej]) hbc⟩
end Go.Proofs.Ytggaimcopbjdiaa.Graph
namespace Go.Proofs.Ytggaimcopbjdiaa.Graph
open Go.Proofs.Ytggaimcopbjdiaa.AM
noncomputable def reachL (code : List (Int × Int)) (s : Int) : List Bool := reachG (code.length + 1) (fun a => nextI code (a : Nat)) s
theorem without_none (code : List (Int × Int)) (s : Int) : withoutL code s (-1) = reachL code s := by
 unfold withoutL reachL
 split
 ·next h => exact none_reached (by omega)
 ·congr 1
  funext a
  refine List.filter_eq_self.2 fun c hc => ?_
  obtain ⟨k, h1, h2⟩ := next_lt hc
  simp only [decide_eq_true_eq]; omega
theorem reachL_len (code : List (Int × Int)) (s : Int) : (reachL code s).length = code.length + 1 := reachG_len _ _ _
theorem rreach_ok {f : Fn} (hf : Fit f.code) (s : Int) (hs : in64 s) : PFun E 91 [encF f, i64 s] (valQ (isV (encB (reachL f.code s)))) := by
 refine p_fun ?_
 show PTri E false [] _ [encF f, i64 s, .junk, .junk] _ _
 refine s_run ?_
 refine s_reg (g_run 1 ?_)
 refine g_call (rwithout_ok hf s (-1) hs ⟨by omega, by omega⟩) ?_
 rintro v rfl
 refine ⟨rfl, ?_⟩
 rw [without_none]
 refine g_end ?_
 exact p_ret fin_v
end Go.Proofs.Ytggaimcopbjdiaa.Graph
namespace Go.Proofs.Ytggaimcopbjdiaa.Graph
open Go.Proofs.Ytggaimcopbjdiaa.AM
end Go.Proofs.Ytggaimcopbjdiaa.Graph
namespace Go.Proofs.Ytggaimcopbjdiaa.Graph
open Go.Proofs.Ytggaimcopbjdiaa.AM
def edgesN (code : List (Int × Int)) (k : Nat) : List (Int × Int) := (List.range k).flatMap fun a => (nextL code a).map fun b => ((a : Int), b)
def edgesL (code : List (Int × Int)) : List (Int × Int) := edgesN code code.length
theorem edgesN_succ (code : List (Int × Int)) (k : Nat) : edgesN code (k + 1) = edgesN code k ++ (nextL code k).map fun b => ((k : Int), b) := by
 simp [edgesN, List.range_succ]
theorem edgesN_pre {code : List (Int × Int)} {k n : Nat} (h : k ≤ n) : ∃ t, edgesN code n = edgesN code k ++ t := by
 induction n with
 | zero => have : k = 0 := by omega
           subst this; exact ⟨[], by simp⟩
 | succ n ih =>
   by_cases e : k = n + 1
   ·subst e; exact ⟨[], by simp⟩
   ·obtain ⟨t, ht⟩ := ih (by omega)
    exact ⟨_, by rw [edgesN_succ, ht, List.append_assoc]⟩
theorem edgesL_at {code : List (Int × Int)} {a i : Nat} (ha : a < code.length) (hi : i < (nextL code a).length) : (edgesL code)[(edgesN code a).length + i]? = some ((a : Int), (nextL code a).getD i 0) := by
 obtain ⟨t, ht⟩ := edgesN_pre (code := code) (show a + 1 ≤ code.length by omega)
 unfold edgesL
 rw [ht, edgesN_succ, List.append_assoc, List.getElem?_append_right (by omega), Nat.add_sub_cancel_left, List.getElem?_append_left (by simpa using hi), List.getElem?_map, List.getElem?_eq_getElem hi, getD_at hi]
 rfl
theorem edges1_ok {code : List (Int × Int)} (hf : Fit code) {b : Nat} (K : List Nat) {S : Nat → PH → Prop} {S' : PH → Prop} (hround : ∀ k hp x y, (edgesL code)[k]? = some (x, y) → S k hp → PRound E (b :: K) b [i64 x, i64 y] hp fun t hp' => (t = true ∧ S (k + 1) hp') ∨ (t = false ∧ S' hp')) {hp0 : PH} (h0 : S 0 hp0) :
  PCall E (b :: K) 64 [.yld b, .fptr 1 1 (fun _ => [encC code]) 0 0] hp0 fun _ hp' => S (edgesL code).length hp' ∨ S' hp' := by
 have f1 := hf.len
 have hKK : (b :: K).all (fun c => (b :: K).contains c) = true := List.all_eq_true.2 fun c hc => by simpa using hc
 refine p_call (fun _ _ => rfl) rfl ?_
 show PTri E false (b :: K) _ [.yld b, .fptr 1 1 (fun _ => [encC code]) 0 0, .junk, .junk, .junk, .junk, .junk, .junk, .junk, .junk, .junk, .junk, .junk, .junk] _ _
 refine s_pure ?_
 refine e_loopA (fun a hp => a ≤ code.length ∧ S (edgesN code a).length hp) (fun a => code.length - a) (fun a => [.yld b, .fptr 1 1 (fun _ => [encC code]) 0 0, .junk, .junk, .junk, .junk, i64 (code.length : Nat), i64 (a : Nat), .junk, .junk, .junk, .junk, .junk, .junk]) 0 ⟨Nat.zero_le _, h0⟩ (.same _ (.same _ (.junk _ (.junk _ (.junk _ (.junk _ (.same _ (.same _ (.junk _ (.junk _ (.junk _ (.junk _ (.junk _ (.junk _ .nil)))))))))))))) ?_
 rintro a hp ⟨ha, hS⟩
 refine s_pure ?_
 refine s_cond (fun h => ?_) (fun h => ?_)
 ·simp only [decide_eq_true_eq] at h
  have hal : a < code.length := by omega
  refine s_skip (s_block (s_pure ?_))
  refine s_reg (g_pure 1 fun O1 => ?_)
  refine g_call (to_ok hf hal) ?_
  rintro v ⟨x, y, rfl, hxy⟩
  refine ⟨rfl, ?_⟩
  refine g_pure 2 fun O2 => ?_
  refine g_fbox (v := .agg [i64 x, i64 y]) 1 2 0 0 (fun i => ([i64 x, i64 y].drop (i * 1)).take 1) (by omega) rfl (by simp [pcs]) (fun i hi => rfl) fun O3 => ?_
  refine g_fin ?_
  have hl2 := nextL_len code a
  have htwo := two_rows hxy rfl
  refine s_pure ?_
  refine e_loopA (fun i hp => i ≤ (nextL code a).length ∧ S ((edgesN code a).length + i) hp) (fun i => (nextL code a).length - i) (fun i => [.yld b, .fptr 1 1 (fun _ => [encC code]) 0 0, i64 (a : Nat), .junk, .junk, .junk, i64 (code.length : Nat), i64 (a : Nat), .junk, encI (nextL code a), i64 ((nextL code a).length : Nat), i64 (i : Nat), .junk, .junk]) 0 ⟨Nat.zero_le _, hS⟩ (.same _ (.same _ (.same _ (.junk _ (.junk _ (.junk _ (.same _ (.same _ (.junk _ (.frz rfl (Nat.le_refl _) hl2 htwo (.same _ (.same _ (.junk _ (.junk _ .nil)))))))))))))) ?_
  rintro i hp ⟨hi, hS⟩
  refine s_pure ?_
  refine s_cond (fun h => ?_) (fun h => ?_)
  ·simp only [decide_eq_true_eq] at h
   have hil : i < (nextL code a).length := by omega
   refine s_skip (s_block (s_pure ?_))
   refine s_reg ?_
   refine prg_yield (b :: K) (hround _ _ _ _ (edgesL_at hal hil) hS) ?_ (hT := by simp [refsOk, refs1, nlb, i64, encI]) (hL := rfl) (hpK := hKK)
   rintro t hp' hq
   refine g_pure 1 fun O1 => ?_
   refine g_fin ?_
   rcases hq with ⟨rfl, hS1⟩ | ⟨rfl, hS1⟩
   ·refine e_f ?_
    refine p_skip (e_pure ?_)
    exact ⟨i + 1, ⟨by omega, hS1⟩, by dsimp only; omega, .same _ (.same _ (.same _ (.junk _ (.junk _ (.junk _ (.same _ (.same _ (.junk _ (.same _ (.same _ (.same _ (.junk _ (.junk _ .nil)))))))))))))⟩
   ·refine e_t ?_
    refine p_ret ?_
    refine fin (R := fun _ hp' => S (edgesL code).length hp' ∨ S' hp') (res := ChartAwake.c64.res) ?_
    exact .inr hS1
  ·simp only [decide_eq_false_iff_not] at h
   have hi' : i = (nextL code a).length := by omega
   subst hi'
   refine s_exit ?_
   refine e_pure ?_
   refine ⟨a + 1, ⟨by omega, ?_⟩, by dsimp only; omega, ?_⟩
   ·have : (edgesN code (a + 1)).length = (edgesN code a).length + (nextL code a).length := by rw [edgesN_succ]; simp
    rw [this]; exact hS
   ·exact .same _ (.same _ (.junk _ (.junk _ (.junk _ (.junk _ (.same _ (.same _ (.junk _ (.junk _ (.junk _ (.junk _ (.junk _ (.junk _ .nil)))))))))))))
 ·simp only [decide_eq_false_iff_not] at h
  have : a = code.length := by omega
  subst this
  refine s_exit ?_
  refine fin (R := fun _ hp' => S (edgesL code).length hp' ∨ S' hp') (res := ChartAwake.c64.res) ?_
  exact .inl hS
end Go.Proofs.Ytggaimcopbjdiaa.Graph
namespace Go.Proofs.Ytggaimcopbjdiaa.Graph
open Go.Proofs.Ytggaimcopbjdiaa.AM
def seqF (code : List (Int × Int)) : PV := .fn 64 [] [.fptr 1 1 (fun _ => [encC code]) 0 0]
theorem edges_ok (code : List (Int × Int)) : PFun E 56 [encC code] (valQ (isV (seqF code))) := by
 refine p_fun ?_
 show PTri E false [] _ [encC code, .junk, .junk] _ _
 refine s_run ?_
 refine s_run ?_
 refine p_ret ?_
 refine fin_z [0] rfl ?_
 rintro v rfl
 exact .fn .nil (.cons (.ptrf (by decide) rfl (by omega) rfl (by simp) rfl fun i hi => by
  have : i = 0 := by omega
  subst this; rfl) .nil)
theorem nextL_nodup (code : List (Int × Int)) (a : Nat) : (nextL code a).Nodup := by
 simp only [nextL]
 repeat' split
 all_goals first
  | exact List.nodup_nil
  | (simp only [List.nodup_cons, List.mem_singleton, List.not_mem_nil, not_false_iff, List.nodup_nil, and_true]; try omega)
def leadN (l : List (Int × Int)) (a : Int) : List Int := (l.filter fun x => decide (x.2 = a)).map (·.1)
theorem leadN_app (l m : List (Int × Int)) (a : Int) : leadN (l ++ m) a = leadN l a ++ leadN m a := by simp [leadN]
theorem lead_map {k : Int} {a : Int} : ∀ {l : List Int}, l.Nodup → leadN (l.map fun b => (k, b)) a = if a ∈ l then [k] else []
 | [], _ => by simp [leadN]
 | b :: l, h => by
   have hn := List.nodup_cons.1 h
   have ih := lead_map (k := k) (a := a) hn.2
   have : leadN ((b :: l).map fun b => (k, b)) a = (if b = a then [k] else []) ++ leadN (l.map fun b => (k, b)) a := by
    simp only [leadN, List.map_cons, List.filter_cons]
    by_cases e : b = a
    ·simp [e]
    ·simp [e]
   rw [this, ih]
   by_cases e : b = a
   ·subst e; rw [if_pos rfl, if_neg hn.1, if_pos (by simp)]; rfl
   ·rw [if_neg e]
    have : (a ∈ b :: l) ↔ a ∈ l := by simp [Ne.symm e]
    simp only [this, List.nil_append]
theorem lead_ahead {code : List (Int × Int)} {a : Int} {k : Nat} (hk : k ≤ code.length) : leadN (edgesN code k) a = aheadN code a k := by
 induction k with
 | zero => rfl
 | succ k ih =>
   rw [edgesN_succ, leadN_app, ih (by omega), lead_map (nextL_nodup _ _), aheadN_succ, nextI_nat (by omega)]
   split
   ·rfl
   ·simp
theorem edgesL_len (code : List (Int × Int)) : (edgesL code).length ≤ 2 * code.length := by
 have : ∀ k, (edgesN code k).length ≤ 2 * k := by
  intro k
  induction k with
  | zero => simp [edgesN]
  | succ k ih => rw [edgesN_succ, List.length_append, List.length_map]; have := nextL_len code k; omega
 exact this _
theorem leadN_len (l : List (Int × Int)) (a : Int) : (leadN l a).length ≤ l.length := by
 unfold leadN; rw [List.length_map]; exact List.length_filter_le _ _
end Go.Proofs.Ytggaimcopbjdiaa.Graph
namespace Go.Proofs.Ytggaimcopbjdiaa.Graph
open Go.Proofs.Ytggaimcopbjdiaa.AM
def lentU (xs : List Int) : PV := .frz 1 xs.length (xs.length + 1) (rowI .u64 (xs ++ [7171]))
def markC (code : List (Int × Int)) : List (Int × Int) := code ++ [(-71, 0)]
theorem lentLabels_ok (xs : List Int) (hx : xs.length < 17592186044416) : PFun E 27 [encU xs] (valQ (isV (lentU xs))) := by
 refine p_fun ?_
 show PTri E false [] _ [encU xs, .junk, .junk] _ _
 refine s_run ?_
 refine s_run ?_
 refine s_run ?_ (hq := by simp only [room, true_and, and_true]; omega)
 refine s_run ?_ (hq := by simp only [room, true_and, and_true]; omega)
 refine s_run ?_
 refine p_ret (fin_z [2] rfl ?_)
 rintro v rfl
 exact .one (.vecf (by decide) rfl rfl (Nat.le_succ _) (Nat.le_refl _) fun i hi => row1_push (en := fun n => .s (.int .u64 n)) (d := 0) (x := 7171) (xs := xs) hi)
theorem rowC_push {code : List (Int × Int)} {x : Int × Int} {i : Nat} (hi : i < code.length + 1) : (if i < code.length then rowC code i else ([i64 x.1, i64 x.2].drop ((i - code.length) * 2)).take 2) = rowC (code ++ [x]) i := by
 by_cases h : i < code.length
 ·rw [if_pos h]
  simp only [rowC, List.getD_eq_getElem?_getD, List.getElem?_append_left h]
 ·have : i = code.length := by omega
  subst this
  rw [if_neg (by omega)]
  simp [rowC, List.getD_eq_getElem?_getD, i64]
theorem lentCode_ok (code : List (Int × Int)) (hx : code.length < 1000000000) : PFun E 28 [encC code] fun v hp => v = .vec 2 0 code.length ∧ hp = [.vec 2 (code.length + 1) (rowC (markC code)) true] := by
 refine call_post (p_call (fun _ _ => rfl) rfl ?_)
 show PTri E false [] _ [encC code, .junk, .junk] _ _
 refine s_run ?_
 refine s_run ?_
 refine s_run ?_ (hq := by simp only [room, true_and, and_true]; omega)
 refine s_run ?_ (hq := by simp only [room, true_and, and_true]; omega)
 refine s_run ?_
 refine p_ret (fin ?_)
 exact ⟨[some 2], [], _, _, wk [some 2] [] [.vec 2 0 code.length] [.vec 2 (code.length + 1) (rowC (markC code)) true] (blks := .cons (bs_vec rfl fun i hi => rowC_push (x := (-71, 0)) hi) .nil), rfl, rfl⟩
def lentCells (f : Fn) (c : PV) : List PV := [.s (.int .u64 f.lvl), lentU f.ps, lentU f.rs, .s (.int .i64 f.loc), .s (.int .i64 f.stk), c]
theorem lentFunction_ok (f : Fn) (h1 : f.ps.length < 17592186044416) (h2 : f.rs.length < 17592186044416) (h3 : f.code.length < 1000000000) : PFun E 10 [encF f] fun v hp => v = .agg (lentCells f (.vec 2 0 f.code.length)) ∧ hp = [.vec 2 (f.code.length + 1) (rowC (markC f.code)) true] := by
 refine call_post (p_call (fun _ _ => rfl) rfl ?_)
 show PTri E false [] _ [encF f, .junk, .junk] _ _
 refine s_run ?_
 refine s_reg (g_run 2 ?_)
 refine g_call (lentLabels_ok f.ps h1) ?_
 rintro v rfl
 refine ⟨rfl, ?_⟩
 refine g_end ?_
 refine s_reg (g_run 2 ?_)
 refine g_call (lentLabels_ok f.rs h2) ?_
 rintro v rfl
 refine ⟨rfl, ?_⟩
 refine g_end ?_
 refine s_reg (g_run 2 ?_)
 refine prg_call rfl rfl rfl rfl (lentCode_ok f.code h3) ?_
 rintro v hpc ⟨rfl, rfl⟩
 refine ⟨rfl, rfl, ?_⟩
 refine g_end ?_
 refine s_run ?_
 refine p_ret (fin ?_)
 exact ⟨[some 2], [], _, _, wk [some 2] [] [.agg (lentCells f (.vec 2 0 f.code.length))] [.vec 2 (f.code.length + 1) (rowC (markC f.code)) true] (vals := .cons (.agg (.cons (.same rfl) (.cons (.same rfl) (.cons (.same rfl) (.cons (.same rfl) (.cons (.same rfl) (.cons (.vec rfl rfl) .nil))))))) .nil) (blks := .cons bs_same .nil), rfl, rfl⟩
end Go.Proofs.Ytggaimcopbjdiaa.Graph
namespace Go.Proofs.Ytggaimcopbjdiaa.Graph
open Go.Proofs.Ytggaimcopbjdiaa.AM
end Go.Proofs.Ytggaimcopbjdiaa.Graph
namespace Go.Proofs.Ytggaimcopbjdiaa.Graph
open Go.Proofs.Ytggaimcopbjdiaa.AM
def tt (f : Fn) (u : Int) (x8 x9 x10 x11 x12 x13 x14 x20 x27 : PV) : List PV := [encF f, i64 u, .ptr 0 0, .ptr 1 0, .s (.bool false), i64 (f.code.length : Nat), .ptr 3 0, seqF f.code, x8, x9, x10, x11, x12, x13, x14, .junk, .junk, .junk, .junk, .junk, x20, .junk, .junk, .junk, .junk, .junk, .junk, x27, .junk, .junk]
def hd4 (f : Fn) (w : Nat) (row : Nat → List PV) : PH := [.cel (cellsF f), .cel [i64 (w : Nat)], .vec 2 (f.code.length + 1) row true, .cel (lentCells f (.vec 2 2 f.code.length))]
end Go.Proofs.Ytggaimcopbjdiaa.Graph
namespace Go.Proofs.Ytggaimcopbjdiaa.Graph
open Go.Proofs.Ytggaimcopbjdiaa.AM
theorem aheadN_mem {code : List (Int × Int)} {a c : Int} {k : Nat} (h : c ∈ aheadN code a k) : ∃ j : Nat, c = j ∧ j < k := by
 induction k with
 | zero => simp [aheadN] at h
 | succ k ih =>
   rw [aheadN_succ] at h
   split at h
   ·rcases List.mem_append.1 h with h | h
    ·obtain ⟨j, h1, h2⟩ := ih h
     exact ⟨j, h1, by omega⟩
    ·simp at h
     exact ⟨k, h, by omega⟩
   ·obtain ⟨j, h1, h2⟩ := ih h
    exact ⟨j, h1, by omega⟩
theorem edgesN_mem {code : List (Int × Int)} {k : Nat} {x : Int × Int} (hk : k ≤ code.length) (h : x ∈ edgesN code k) : ∃ a b : Nat, x = ((a : Int), (b : Int)) ∧ a < k ∧ (b : Int) ∈ nextL code a := by
 unfold edgesN at h
 obtain ⟨a, h1, h2⟩ := List.mem_flatMap.1 h
 obtain ⟨b, h3, rfl⟩ := List.mem_map.1 h2
 have ha := List.mem_range.1 h1
 obtain ⟨j, rfl, _⟩ := next_lt (code := code) (a := (a : Int)) (by rw [nextI_nat (by omega)]; exact h3)
 exact ⟨a, j, rfl, ha, h3⟩
theorem lead_push {l : List (Int × Int)} {x : Int} {b : Nat} : (fun j : Nat => leadN (l ++ [(x, (b : Int))]) (j : Int)) = updR (fun j : Nat => leadN l (j : Int)) b (leadN l (b : Int) ++ [x]) := by
 funext j
 rw [leadN_app]
 unfold updR
 by_cases h : j = b
 ·subst h
  rw [if_pos rfl]; simp [leadN]
 ·rw [if_neg h]
  have : ¬ (b : Int) = (j : Int) := by omega
  simp [leadN, this]
end Go.Proofs.Ytggaimcopbjdiaa.Graph
