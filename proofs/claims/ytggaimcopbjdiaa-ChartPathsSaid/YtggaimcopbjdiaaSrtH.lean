import Derived.Test.YtggaimcopbjdiaaRegWk
set_option linter.unusedVariables false
set_option linter.unusedSimpArgs false
set_option maxRecDepth 10000
namespace Go.Proofs.Ytggaimcopbjdiaa.Graph
open Go.Proofs.Ytggaimcopbjdiaa.AM Go.Proofs.Ytggaimcopbjdiaa.Post
def swp (xs : List Int) (i j : Nat) : List Int := (xs.set i (xs.getD j 0)).set j (xs.getD i 0)
theorem swp_len {xs : List Int} {i j : Nat} : (swp xs i j).length = xs.length := by simp [swp]
theorem set_at {xs : List Int} {i k : Nat} {v : Int} (h : i < xs.length) : (xs.set i v).getD k 0 = if k = i then v else xs.getD k 0 := by
 rw [List.getD_eq_getElem?_getD, List.getD_eq_getElem?_getD]
 by_cases e : k = i
 ·subst e; rw [if_pos rfl, List.getElem?_set_self h]; rfl
 ·rw [if_neg e, List.getElem?_set_ne (Ne.symm e)]
theorem swp_at {xs : List Int} {i j k : Nat} (hi : i < xs.length) (hj : j < xs.length) : (swp xs i j).getD k 0 = if k = j then xs.getD i 0 else if k = i then xs.getD j 0 else xs.getD k 0 := by
 unfold swp
 rw [set_at (by rw [List.length_set]; exact hj), set_at hi]
theorem swp_count {xs : List Int} {i j : Nat} (hi : i < xs.length) (hj : j < xs.length) (z : Int) : (swp xs i j).count z = xs.count z := by
 have e1 : xs.getD i 0 = xs[i] := by rw [List.getD_eq_getElem?_getD, List.getElem?_eq_getElem hi]; rfl
 have e2 : xs.getD j 0 = xs[j] := by rw [List.getD_eq_getElem?_getD, List.getElem?_eq_getElem hj]; rfl
 unfold swp
 rw [List.count_set (by rw [List.length_set]; exact hj), List.count_set hi, e1, e2]
 have g : (xs.set i xs[j])[j]'(by rw [List.length_set]; exact hj) = if i = j then xs[j] else xs[j] := by
  rw [List.getElem_set]
 rw [g, ite_self]
 have c1 : 0 < xs.count xs[i] := List.count_pos_iff.2 (List.getElem_mem hi)
 have c2 : 0 < xs.count xs[j] := List.count_pos_iff.2 (List.getElem_mem hj)
 by_cases w1 : xs[i] = z <;> by_cases w2 : xs[j] = z
 ·subst w1; simp_all
 ·have : ¬ (xs[j] == z) = true := by simpa using w2
  subst w1
  simp_all
 ·subst w2
  have : ¬ (xs[i] == xs[j]) = true := by simpa using w1
  simp_all
 ·simp_all
inductive Sw (a b : Nat) (xs : List Int) : List Int → Prop
 | refl : Sw a b xs xs
 | step {ys : List Int} {i j : Nat} (h : Sw a b xs ys) (hi : a ≤ i ∧ i < b) (hj : a ≤ j ∧ j < b) : Sw a b xs (swp ys i j)
theorem Sw.len {a b : Nat} {xs ys : List Int} (h : Sw a b xs ys) : ys.length = xs.length := by
 induction h with
 | refl => rfl
 | step _ _ _ ih => rw [swp_len, ih]
theorem Sw.trans {a b : Nat} {xs ys zs : List Int} (h : Sw a b xs ys) (k : Sw a b ys zs) : Sw a b xs zs := by
 induction k with
 | refl => exact h
 | step _ hi hj ih => exact .step ih hi hj
theorem Sw.mono {a b a' b' : Nat} {xs ys : List Int} (h : Sw a b xs ys) (ha : a' ≤ a) (hb : b ≤ b') : Sw a' b' xs ys := by
 induction h with
 | refl => exact .refl
 | step _ hi hj ih => exact .step ih ⟨by omega, by omega⟩ ⟨by omega, by omega⟩
theorem Sw.one {a b i j : Nat} {xs : List Int} (hi : a ≤ i ∧ i < b) (hj : a ≤ j ∧ j < b) : Sw a b xs (swp xs i j) := .step .refl hi hj
theorem Sw.out {a b k : Nat} {xs ys : List Int} (h : Sw a b xs ys) (hb : b ≤ xs.length) (hk : k < a ∨ b ≤ k) : ys.getD k 0 = xs.getD k 0 := by
 induction h with
 | refl => rfl
 | step h hi hj ih =>
   have hl := h.len
   rw [swp_at (by omega) (by omega), if_neg (by omega), if_neg (by omega), ih]
theorem Sw.all {a b : Nat} {xs ys : List Int} {Q : Int → Prop} (h : Sw a b xs ys) (hb : b ≤ xs.length) (hq : ∀ k, a ≤ k → k < b → Q (xs.getD k 0)) : ∀ k, a ≤ k → k < b → Q (ys.getD k 0) := by
 induction h with
 | refl => exact hq
 | step h hi hj ih =>
   have hl := h.len
   intro k h1 h2
   rw [swp_at (by omega) (by omega)]
   split
   ·exact ih _ hi.1 hi.2
   ·split
    ·exact ih _ hj.1 hj.2
    ·exact ih k h1 h2
theorem Sw.count {a b : Nat} {xs ys : List Int} (h : Sw a b xs ys) (hb : b ≤ xs.length) (z : Int) : ys.count z = xs.count z := by
 induction h with
 | refl => rfl
 | step h hi hj ih =>
   have hl := h.len
   rw [swp_count (by omega) (by omega), ih]
def Srt (a b : Nat) (xs : List Int) : Prop := ∀ i j, a ≤ i → i ≤ j → j < b → xs.getD i 0 ≤ xs.getD j 0
theorem Srt.short {a b : Nat} {xs : List Int} (h : b ≤ a + 1) : Srt a b xs := fun i j h1 h2 h3 => by
 have : i = j := by omega
 subst this; exact Int.le_refl _
theorem Srt.congr {a b : Nat} {xs ys : List Int} (h : Srt a b xs) (he : ∀ k, a ≤ k → k < b → ys.getD k 0 = xs.getD k 0) : Srt a b ys := fun i j h1 h2 h3 => by
 rw [he i h1 (by omega), he j (by omega) h3]; exact h i j h1 h2 h3
theorem Srt.join {a m b : Nat} {xs : List Int} (h1 : Srt a m xs) (h2 : Srt m b xs) (h : ∀ i j, a ≤ i → i < m → m ≤ j → j < b → xs.getD i 0 ≤ xs.getD j 0) : Srt a b xs := fun i j q1 q2 q3 => by
 by_cases w1 : j < m
 ·exact h1 i j q1 q2 w1
 ·by_cases w2 : i < m
  ·exact h i j q1 w2 (by omega) q3
  ·exact h2 i j (by omega) q2 q3
theorem row_set2 {xs : List Int} {i j : Nat} {x y : Int} {v w : PV} (hv : v = .s (.int .i64 x)) (hw : w = .s (.int .i64 y)) {q : Nat} (hq : q < xs.length) : (if q = j then psplice (if q = i then psplice (rowI .i64 xs q) 0 (pcs v) else rowI .i64 xs q) 0 (pcs w) else if q = i then psplice (rowI .i64 xs q) 0 (pcs v) else rowI .i64 xs q) = rowI .i64 ((xs.set i x).set j y) q := by
 subst hv; subst hw
 have e : (if q = i then psplice (rowI .i64 xs q) 0 (pcs (.s (.int .i64 x))) else rowI .i64 xs q) = rowI .i64 (xs.set i x) q := row1_set (en := i64) (d := 0) (xs := xs) (c := i) (x := x) _ rfl hq
 rw [e]
 exact row1_set (en := i64) (d := 0) (xs := xs.set i x) (c := j) (x := y) _ rfl (by rw [List.length_set]; exact hq)
def dH (xs : List Int) (n : Nat) (full : Bool) : PH := [.vec 1 n (rowI .i64 xs) full]
def swQ (n : Nat) (full : Bool) (a b : Nat) (xs : List Int) (P : PV → List Int → Prop) : PV → PH → Prop := fun v hp => ∃ ys, hp = dH ys n full ∧ Sw a b xs ys ∧ P v ys
end Go.Proofs.Ytggaimcopbjdiaa.Graph
namespace Go.Proofs.Ytggaimcopbjdiaa.Graph
open Go.Proofs.Ytggaimcopbjdiaa.AM Go.Proofs.Ytggaimcopbjdiaa.Post
theorem isnan_ok (x : Int) : PFun E 90 [.s (.int .i64 x)] (valQ (isV (.s (.bool false)))) := by
 refine p_fun ?_
 show PTri E false [] _ [.s (.int .i64 x), .junk] _ _
 refine s_run ?_
 refine s_run ?_
 exact p_ret (fin_v (hv := by show PV.s (.bool (x != x)) = _; rw [bne_self_eq_false]))
theorem less_ok (x y : Int) : PFun E 79 [.s (.int .i64 x), .s (.int .i64 y)] (valQ (isV (.s (.bool (decide (x < y)))))) := by
 refine p_fun ?_
 show PTri E false [] _ [.s (.int .i64 x), .s (.int .i64 y), .junk] _ _
 refine s_run ?_
 refine s_reg ?_
 refine g_call (isnan_ok x) ?_
 rintro v rfl
 refine ⟨rfl, ?_⟩
 refine g_end ?_
 exact p_ret fin_v
theorem quo_nat {l k : Nat} (h : l < 1000000000) : PV.s (.int .i64 (aw .i64 (Int.tdiv (l : Int) (k : Int)))) = i64 ((l / k : Nat) : Int) := by
 have e : Int.tdiv (l : Int) (k : Int) = ((l / k : Nat) : Int) := rfl
 have : l / k ≤ l := Nat.div_le_self _ _
 unfold i64
 rw [e]
 clear e
 generalize l / k = q at this ⊢
 rw [aw64 (by omega) (by omega)]
section
variable {n : Nat} {xs : List Int} {full : Bool}
theorem order2_ok (hx : xs.length = n) {a b s : Nat} (ha : a < n) (hb : b < n) (hs : s < 1000) : PCall E [0, 1] 92 [.vec 1 0 n, i64 (a : Nat), i64 (b : Nat), .ptr 1 0] [.vec 1 n (rowI .i64 xs) full, .cel [i64 (s : Nat)]] (fun v hp => ∃ p q s' : Nat, v = .tup [i64 (p : Nat), i64 (q : Nat)] ∧ hp = [.vec 1 n (rowI .i64 xs) full, .cel [i64 (s' : Nat)]] ∧ ((p = a ∧ q = b) ∨ (p = b ∧ q = a)) ∧ s' ≤ s + 1) := by
 refine p_fn ?_
 show PTri E false [0, 1] _ [.vec 1 0 n, i64 (a : Nat), i64 (b : Nat), .ptr 1 0, .junk, .junk, .junk] _ _
 refine s_run ?_
 refine s_ass (s_drw (g_run 4 ?_))
 refine g_call (less_ok _ _) ?_
 rintro v rfl
 refine ⟨rfl, ?_⟩
 refine g_end ?_
 refine s_cond (fun h => ?_) (fun h => ?_)
 ·refine s_ass (s_reg (g_run 3 ?_))
  refine prg_head (v' := i64 (s + 1 : Nat)) rfl ?_
  refine g_end ?_
  refine s_ass (s_run ?_)
  refine s_ret ?_
  exact fin ⟨b, a, s + 1, rfl, rfl, .inr ⟨rfl, rfl⟩, Nat.le_refl _⟩
 ·refine s_skip ?_
  refine s_run ?_
  exact p_ret (fin ⟨a, b, s, rfl, rfl, .inl ⟨rfl, rfl⟩, by omega⟩)
theorem median_ok (hx : xs.length = n) {a b c s : Nat} (ha : a < n) (hb : b < n) (hc : c < n) (hs : s < 900) : PCall E [0, 1] 89 [.vec 1 0 n, i64 (a : Nat), i64 (b : Nat), i64 (c : Nat), .ptr 1 0] [.vec 1 n (rowI .i64 xs) full, .cel [i64 (s : Nat)]] (fun v hp => ∃ m s' : Nat, v = i64 (m : Nat) ∧ hp = [.vec 1 n (rowI .i64 xs) full, .cel [i64 (s' : Nat)]] ∧ (m = a ∨ m = b ∨ m = c) ∧ s' ≤ s + 3) := by
 refine p_fn ?_
 show PTri E false [0, 1] _ [.vec 1 0 n, i64 (a : Nat), i64 (b : Nat), i64 (c : Nat), .ptr 1 0, .junk] _ _
 refine s_run ?_
 refine s_reg ?_
 refine g_scall [0, 1] [] (args' := [.vec 1 0 n, i64 (a : Nat), i64 (b : Nat), .ptr 1 0]) (hpc := [.vec 1 n (rowI .i64 xs) full, .cel [i64 (s : Nat)]]) (order2_ok hx ha hb (by omega)) (wk _ [] _ _ (vals := .cons (.one (.vec rfl rfl)) (.cons (.nlv rfl) (.cons (.nlv rfl) (.cons (.one (.ptr rfl)) .nil)))) (blks := .cons bs_same (.cons bs_cel .nil))) ?_
 rintro v hpc' ⟨p1, q1, s1, rfl, rfl, h1, e1⟩
 have hp1 : p1 < n := by rcases h1 with ⟨w, _⟩ | ⟨w, _⟩ <;> omega
 have hq1 : q1 < n := by rcases h1 with ⟨_, w⟩ | ⟨_, w⟩ <;> omega
 refine ⟨rfl, rfl, Nat.le_refl _, ?_⟩
 refine g_end ?_
 refine s_reg ?_
 refine g_scall [0, 1] [] (args' := [.vec 1 0 n, i64 (q1 : Nat), i64 (c : Nat), .ptr 1 0]) (hpc := [.vec 1 n (rowI .i64 xs) full, .cel [i64 (s1 : Nat)]]) (order2_ok hx hq1 hc (by omega)) (wk _ [] _ _ (vals := .cons (.one (.vec rfl rfl)) (.cons (.nlv rfl) (.cons (.nlv rfl) (.cons (.one (.ptr rfl)) .nil)))) (blks := .cons bs_same (.cons bs_cel .nil))) ?_
 rintro v hpc' ⟨p2, q2, s2, rfl, rfl, h2, e2⟩
 have hp2 : p2 < n := by rcases h2 with ⟨w, _⟩ | ⟨w, _⟩ <;> omega
 refine ⟨rfl, rfl, Nat.le_refl _, ?_⟩
 refine g_end ?_
 refine s_reg ?_
 refine g_scall [0, 1] [] (args' := [.vec 1 0 n, i64 (p1 : Nat), i64 (p2 : Nat), .ptr 1 0]) (hpc := [.vec 1 n (rowI .i64 xs) full, .cel [i64 (s2 : Nat)]]) (order2_ok hx hp1 hp2 (by omega)) (wk _ [] _ _ (vals := .cons (.one (.vec rfl rfl)) (.cons (.nlv rfl) (.cons (.nlv rfl) (.cons (.one (.ptr rfl)) .nil)))) (blks := .cons bs_same (.cons bs_cel .nil))) ?_
 rintro v hpc' ⟨p3, q3, s3, rfl, rfl, h3, e3⟩
 refine ⟨rfl, rfl, Nat.le_refl _, ?_⟩
 refine g_end ?_
 refine s_run ?_
 refine p_ret (fin ⟨q3, s3, rfl, rfl, ?_, by omega⟩)
 rcases h1 with ⟨rfl, rfl⟩ | ⟨rfl, rfl⟩ <;> rcases h2 with ⟨rfl, rfl⟩ | ⟨rfl, rfl⟩ <;> rcases h3 with ⟨rfl, rfl⟩ | ⟨rfl, rfl⟩ <;> simp
theorem pivot_ok (hx : xs.length = n) (hn : n < 1000000) {a b : Nat} (hb : b ≤ n) (h1 : a + 12 < b) (h2 : b < a + 50) : PCall E [0] 76 [.vec 1 0 n, i64 (a : Nat), i64 (b : Nat)] [.vec 1 n (rowI .i64 xs) full] (fun v hp => ∃ (m : Nat) (h : Int), v = .tup [i64 (m : Nat), i64 h] ∧ hp = [.vec 1 n (rowI .i64 xs) full] ∧ a ≤ m ∧ m < b ∧ (h = 0 ∨ h = 1)) := by
 refine p_fn ?_
 show PTri E false [0] _ [.vec 1 0 n, i64 (a : Nat), i64 (b : Nat), .junk, .junk, .junk, .junk, .junk, .junk, .junk, .junk, .junk, .junk, .junk, .junk] _ _
 obtain ⟨l, rfl⟩ : ∃ l, b = a + l := ⟨b - a, by omega⟩
 refine s_run ?_
 refine s_reg (g_run 1 ?_)
 refine prg_head (v' := i64 (l : Nat)) (by unfold i64; congr 2; omega) ?_
 refine g_end ?_
 refine s_run ?_
 refine s_reg (g_run 1 ?_)
 refine prg_head (quo_nat (k := 4) (by omega)) ?_
 refine g_run 1 ?_
 refine prg_head (v' := i64 (l / 4 * 1 : Nat)) rfl ?_
 refine g_run 1 ?_
 refine prg_head (v' := i64 (a + l / 4 * 1 : Nat)) rfl ?_
 refine g_end ?_
 refine s_reg (g_run 1 ?_)
 refine prg_head (quo_nat (k := 4) (by omega)) ?_
 refine g_run 1 ?_
 refine prg_head (v' := i64 (l / 4 * 2 : Nat)) rfl ?_
 refine g_run 1 ?_
 refine prg_head (v' := i64 (a + l / 4 * 2 : Nat)) rfl ?_
 refine g_end ?_
 refine s_reg (g_run 1 ?_)
 refine prg_head (quo_nat (k := 4) (by omega)) ?_
 refine g_run 1 ?_
 refine prg_head (v' := i64 (l / 4 * 3 : Nat)) rfl ?_
 refine g_run 1 ?_
 refine prg_head (v' := i64 (a + l / 4 * 3 : Nat)) rfl ?_
 refine g_end ?_
 refine s_ass (s_reg (g_run 1 ?_))
 refine prg_head (v' := .s (.bool true)) (by rw [decide_eq_true (by omega)]) ?_
 refine g_end ?_
 refine s_t ?_
 refine s_ass (s_ass (s_reg (g_run 1 ?_)))
 refine prg_head (v' := .s (.bool false)) (by rw [decide_eq_false (by omega)]) ?_
 refine g_end ?_
 refine s_f (s_skip ?_)
 refine s_reg ?_
 refine g_scall [0, 1] [] (args' := [.vec 1 0 n, i64 (a + l / 4 * 1 : Nat), i64 (a + l / 4 * 2 : Nat), i64 (a + l / 4 * 3 : Nat), .ptr 1 0]) (hpc := [.vec 1 n (rowI .i64 xs) full, .cel [i64 ((0 : Nat) : Int)]]) (median_ok hx (by omega) (by omega) (by omega) (by omega)) (wk _ [] _ _ (vals := .cons (.one (.vec rfl rfl)) (.cons (.nlv rfl) (.cons (.nlv rfl) (.cons (.nlv rfl) (.cons (.one (.ptr rfl)) .nil))))) (blks := .cons bs_same (.cons bs_cel .nil))) ?_
 rintro v hpc' ⟨m, s, rfl, rfl, hm, hs⟩
 have hm1 : a ≤ m ∧ m < a + l := by rcases hm with rfl | rfl | rfl <;> constructor <;> omega
 refine ⟨rfl, rfl, Nat.le_refl _, ?_⟩
 refine g_end ?_
 refine s_run ?_
 refine p_weak [some 0] [] (wk _ [] ([.junk, .junk, .junk, .junk, .junk, .junk, .junk, .junk, i64 (m : Nat), .junk, .junk, .junk, i64 (s : Nat), .junk, .junk]) [.vec 1 n (rowI .i64 xs) full] (vals := by (repeat' (first | exact VSubs.nil | apply VSubs.cons | exact VSub.one (VSub1.junk _) | exact VSub.nlv rfl))) (blks := .cons bs_same .nil)) ?_
 refine p_block ?_
 refine s_run ?_
 refine e_cond (fun h3 => ?_) (fun h3 => ?_)
 ·refine s_run ?_
  refine p_ret ?_
  exact fin (R := fun v hp => ∃ (m : Nat) (h : Int), v = .tup [i64 (m : Nat), i64 h] ∧ hp = [.vec 1 n (rowI .i64 xs) full] ∧ a ≤ m ∧ m < a + l ∧ (h = 0 ∨ h = 1)) (res := [.tmp 3, .tmp 4]) ⟨m, 1, rfl, rfl, hm1.1, hm1.2, .inr rfl⟩
 ·refine s_reg (g_run 1 ?_)
  refine prg_head (v' := .s (.bool false)) (by congr 2; rw [beq_eq_false_iff_ne]; omega) ?_
  refine g_end ?_
  refine e_f ?_
  refine s_run ?_
  refine p_ret ?_
  exact fin (R := fun v hp => ∃ (m : Nat) (h : Int), v = .tup [i64 (m : Nat), i64 h] ∧ hp = [.vec 1 n (rowI .i64 xs) full] ∧ a ≤ m ∧ m < a + l ∧ (h = 0 ∨ h = 1)) (res := [.tmp 3, .tmp 4]) ⟨m, 0, rfl, rfl, hm1.1, hm1.2, .inl rfl⟩
end
end Go.Proofs.Ytggaimcopbjdiaa.Graph
namespace Go.Proofs.Ytggaimcopbjdiaa.Graph
open Go.Proofs.Ytggaimcopbjdiaa.AM Go.Proofs.Ytggaimcopbjdiaa.Post
def InsK (a i j : Nat) (xs : List Int) : Prop := ∀ p q, a ≤ p → p ≤ q → q < i + 1 → q ≠ j → xs.getD p 0 ≤ xs.getD q 0
theorem ins_step {a i j : Nat} {xs : List Int} (h : InsK a i j xs) (h1 : a < j) (h2 : j ≤ i) (hi : i < xs.length) (hl : xs.getD j 0 < xs.getD (j - 1) 0) : InsK a i (j - 1) (swp xs j (j - 1)) := by
 intro p q hp hpq hq hne
 rw [swp_at (by omega) (by omega), swp_at (by omega) (by omega)]
 rw [if_neg hne]
 by_cases e : q = j
 ·subst e
  rw [if_pos rfl]
  by_cases w : p = q - 1
  ·rw [if_pos w]; omega
  ·rw [if_neg w]
   by_cases w2 : p = q
   ·rw [if_pos w2]; exact Int.le_refl _
   ·rw [if_neg w2]
    exact h p (q - 1) hp (by omega) (by omega) (by omega)
 ·rw [if_neg e]
  by_cases w : p = j - 1
  ·rw [if_pos w]
   by_cases u : q = j - 1
   ·exact absurd u hne
   ·exact h j q (by omega) (by omega) hq e
  ·rw [if_neg w]
   by_cases w2 : p = j
   ·rw [if_pos w2]
    exact h (j - 1) q (by omega) (by omega) hq e
   ·rw [if_neg w2]
    exact h p q hp hpq hq e
theorem ins_done {a i j : Nat} {xs : List Int} (h : InsK a i j xs) (h1 : a ≤ j) (h2 : j ≤ i) (hl : j = a ∨ xs.getD (j - 1) 0 ≤ xs.getD j 0) : Srt a (i + 1) xs := by
 intro p q hp hpq hq
 by_cases e : q = j
 ·subst e
  by_cases w : p = q
  ·subst w; exact Int.le_refl _
  ·rcases hl with u | u
   ·omega
   ·exact Int.le_trans (h p (q - 1) hp (by omega) (by omega) (by omega)) u
 ·exact h p q hp hpq hq e
section
variable {n : Nat} {xs : List Int} {full : Bool}
noncomputable def iV (n a b : Nat) (x3 x4 : PV) : List PV := [.vec 1 0 n, i64 (a : Nat), i64 (b : Nat), x3, x4, .junk, .junk]
theorem insertion_ok (hx : xs.length = n) (hn : n < 1000000) {a b : Nat} (hab : a ≤ b) (hb : b ≤ n) : PCall E [0] 73 [.vec 1 0 n, i64 (a : Nat), i64 (b : Nat)] (dH xs n full) (swQ n full a b xs fun v ys => v = .tup [] ∧ Srt a b ys) := by
 refine p_fn ?_
 show PTri E false [0] _ [.vec 1 0 n, i64 (a : Nat), i64 (b : Nat), .junk, .junk, .junk, .junk] _ _
 unfold dH
 refine s_reg (g_run 1 ?_)
 refine prg_head (v' := i64 (a + 1 : Nat)) rfl ?_
 refine g_end ?_
 refine e_loop (ι := Nat × List Int) (fun s => a + 1 ≤ s.1 ∧ (s.1 ≤ b ∨ s.1 = a + 1) ∧ Sw a b xs s.2 ∧ Srt a s.1 s.2) (fun s => b + 1 - s.1) (fun s => iV n a b (i64 (s.1 : Nat)) .junk) (fun s => dH s.2 n full) (a + 1, xs) ⟨Nat.le_refl _, .inr rfl, .refl, Srt.short (Nat.le_refl _)⟩ (σ := [some 0]) (fz := []) (wk _ [] _ _ (vals := by (try dsimp only [iV]); (repeat' (first | exact VSubs.nil | apply VSubs.cons | exact VSub.one (VSub1.junk _) | exact VSub.nlv rfl | exact VSub.one (VSub1.vec rfl rfl)))) (blks := .cons bs_same .nil)) ?_
 rintro ⟨i, ys⟩ ⟨h1, h2, h3, h4⟩
 dsimp only at h1 h2 h3 h4 ⊢
 have hyl : ys.length = n := h3.len.trans hx
 unfold iV dH
 refine s_ass (s_run ?_)
 refine s_cond (fun c1 => ?_) (fun c1 => ?_)
 ·simp only [decide_eq_true_eq] at c1
  have hib : i < b := by omega
  refine s_skip (s_block ?_)
  refine s_run ?_
  refine e_loop (ι := Nat × List Int) (fun s => a ≤ s.1 ∧ s.1 ≤ i ∧ Sw a b xs s.2 ∧ InsK a i s.1 s.2) (fun s => s.1) (fun s => iV n a b (i64 (i : Nat)) (i64 (s.1 : Nat))) (fun s => dH s.2 n full) (i, ys) ⟨by omega, Nat.le_refl _, h3, fun p q q1 q2 q3 q4 => h4 p q q1 q2 (by omega)⟩ (σ := [some 0]) (fz := []) (wk _ [] _ _ (vals := by (try dsimp only [iV]); (repeat' (first | exact VSubs.nil | apply VSubs.cons | exact VSub.one (VSub1.junk _) | exact VSub.nlv rfl | exact VSub.one (VSub1.vec rfl rfl)))) (blks := .cons bs_same .nil)) ?_
  rintro ⟨j, zs⟩ ⟨g1, g2, g3, g4⟩
  dsimp only at g1 g2 g3 g4 ⊢
  have hzl : zs.length = n := g3.len.trans hx
  unfold iV dH
  refine s_ass (s_drw (g_run 1 ?_))
  refine prg_split (fun c2 => ?_) (fun c2 => ?_)
  ·simp only [gt_iff_lt, decide_eq_true_eq] at c2
   have haj : a < j := by omega
   refine g_run 7 ?_
   refine prg_head (v' := i64 ((j - 1 : Nat) : Int)) (by unfold i64; congr 2; omega) ?_
   refine g_run 2 ?_
   refine g_call (less_ok _ _) ?_
   rintro v rfl
   refine ⟨rfl, ?_⟩
   refine g_end ?_
   refine s_cond (fun c3 => ?_) (fun c3 => ?_)
   ·simp only [decide_eq_true_eq] at c3
    refine s_skip (s_block ?_)
    refine e_drw (g_run 1 ?_)
    refine prg_head (v' := i64 ((j - 1 : Nat) : Int)) (by unfold i64; congr 2; omega) ?_
    refine g_run 7 ?_
    refine prg_head (v' := i64 ((j - 1 : Nat) : Int)) (by unfold i64; congr 2; omega) ?_
    refine g_end ?_
    refine e_reg (g_run 1 ?_)
    refine prg_head (v' := i64 ((j - 1 : Nat) : Int)) (by unfold i64; congr 2; omega) ?_
    refine g_end ?_
    refine lp_next (j - 1, swp zs j (j - 1)) ⟨by omega, by omega, .step g3 ⟨by omega, by omega⟩ ⟨by omega, by omega⟩, ins_step g4 haj g2 (by omega) c3⟩ (σ := [some 0]) (fz := []) (wk _ [] _ _ (vals := by (try dsimp only [iV]); (repeat' (first | exact VSubs.nil | apply VSubs.cons | exact VSub.one (VSub1.junk _) | exact VSub.nlv rfl | exact VSub.one (VSub1.vec rfl rfl)))) (blks := .cons (bs_vec rfl (fun q hq => row_set2 rfl rfl (by omega)) (h := rfl) (hb := rfl)) .nil))
   ·simp only [decide_eq_false_iff_not] at c3
    refine s_exit ?_
    refine e_run ?_
    refine lp_next (i + 1, zs) ⟨by omega, by omega, g3, ins_done g4 g1 g2 (.inr (Int.not_lt.1 c3))⟩ (σ := [some 0]) (fz := []) (wk _ [] _ _ (vals := by (try dsimp only [iV]); (repeat' (first | exact VSubs.nil | apply VSubs.cons | exact VSub.one (VSub1.junk _) | exact VSub.nlv rfl | exact VSub.one (VSub1.vec rfl rfl)))) (blks := .cons bs_same .nil))
  ·simp only [gt_iff_lt, decide_eq_false_iff_not] at c2
   refine g_end ?_
   refine s_f ?_
   refine s_exit ?_
   refine e_run ?_
   refine lp_next (i + 1, zs) ⟨by omega, by omega, g3, ins_done g4 g1 g2 (.inl (by omega))⟩ (σ := [some 0]) (fz := []) (wk _ [] _ _ (vals := by (try dsimp only [iV]); (repeat' (first | exact VSubs.nil | apply VSubs.cons | exact VSub.one (VSub1.junk _) | exact VSub.nlv rfl | exact VSub.one (VSub1.vec rfl rfl)))) (blks := .cons bs_same .nil))
 ·simp only [decide_eq_false_iff_not] at c1
  refine s_exit ?_
  refine fin (R := swQ n full a b xs fun v ys => v = .tup [] ∧ Srt a b ys) (res := []) ⟨ys, rfl, h3, rfl, ?_⟩
  by_cases e : i = b
  ·subst e; exact h4
  ·exact Srt.short (by omega)
end
end Go.Proofs.Ytggaimcopbjdiaa.Graph
namespace Go.Proofs.Ytggaimcopbjdiaa.Graph
open Go.Proofs.Ytggaimcopbjdiaa.AM Go.Proofs.Ytggaimcopbjdiaa.Post
def Hp (f lo hi : Nat) (xs : List Int) : Prop := ∀ c, 1 ≤ c → c < hi → lo ≤ (c - 1) / 2 → xs.getD (f + c) 0 ≤ xs.getD (f + (c - 1) / 2) 0
structure HpR (f lo hi r : Nat) (xs : List Int) : Prop where
 ok : ∀ c, 1 ≤ c → c < hi → lo ≤ (c - 1) / 2 → (c - 1) / 2 ≠ r → xs.getD (f + c) 0 ≤ xs.getD (f + (c - 1) / 2) 0
 up : ∀ c, 1 ≤ c → c < hi → (c - 1) / 2 = r → 1 ≤ r → lo ≤ (r - 1) / 2 → xs.getD (f + c) 0 ≤ xs.getD (f + (r - 1) / 2) 0
theorem HpR.start {f lo hi : Nat} {xs : List Int} (h : Hp f (lo + 1) hi xs) : HpR f lo hi lo xs :=
 ⟨fun c h1 h2 h3 h4 => h c h1 h2 (by omega), fun c h1 h2 h3 h4 h5 => by omega⟩
theorem HpR.done {f lo hi r : Nat} {xs : List Int} (h : HpR f lo hi r xs) (hc : ∀ c, 1 ≤ c → c < hi → (c - 1) / 2 = r → xs.getD (f + c) 0 ≤ xs.getD (f + r) 0) : Hp f lo hi xs := fun c h1 h2 h3 => by
 by_cases e : (c - 1) / 2 = r
 ·rw [e]; exact hc c h1 h2 e
 ·exact h.ok c h1 h2 h3 e
theorem HpR.step {f lo hi r m : Nat} {xs : List Int} (h : HpR f lo hi r xs) (hlo : lo ≤ r) (hl : f + hi ≤ xs.length) (hm : m < hi) (hr : (m - 1) / 2 = r) (hm1 : 1 ≤ m) (hmx : ∀ c, 1 ≤ c → c < hi → (c - 1) / 2 = r → xs.getD (f + c) 0 ≤ xs.getD (f + m) 0) (hlt : xs.getD (f + r) 0 < xs.getD (f + m) 0) : HpR f lo hi m (swp xs (f + r) (f + m)) := by
 have hrm : r < m := by omega
 have g : ∀ k, (swp xs (f + r) (f + m)).getD (f + k) 0 = if k = m then xs.getD (f + r) 0 else if k = r then xs.getD (f + m) 0 else xs.getD (f + k) 0 := fun k => by
  rw [swp_at (by omega) (by omega)]
  by_cases e1 : k = m
  ·rw [if_pos (by omega), if_pos e1]
  ·rw [if_neg (by omega), if_neg e1]
   by_cases e2 : k = r
   ·rw [if_pos (by omega), if_pos e2]
   ·rw [if_neg (by omega), if_neg e2]
 constructor
 ·intro c h1 h2 h3 h4
  rw [g, g, if_neg h4]
  by_cases e1 : (c - 1) / 2 = r
  ·rw [if_pos e1]
   by_cases e2 : c = m
   ·rw [if_pos e2]; omega
   ·rw [if_neg e2, if_neg (by omega)]
    exact hmx c h1 h2 e1
  ·rw [if_neg e1]
   by_cases e2 : c = m
   ·omega
   ·rw [if_neg e2]
    by_cases e3 : c = r
    ·rw [if_pos e3]
     subst e3
     exact h.up m hm1 hm hr h1 h3
    ·rw [if_neg e3]
     exact h.ok c h1 h2 h3 e1
 ·intro c h1 h2 h3 h4 h5
  rw [g, g, hr, if_neg (by omega), if_neg (by omega), if_neg (by omega), if_pos rfl]
  have := h.ok c h1 h2 (by omega) (by omega)
  rw [h3] at this
  exact this
theorem hp_max {f hi : Nat} {xs : List Int} (h : Hp f 0 hi xs) : ∀ k, k < hi → xs.getD (f + k) 0 ≤ xs.getD f 0 := by
 intro k
 induction k using Nat.strongRecOn with
 | ind k ih =>
   intro hk
   by_cases e : k = 0
   ·subst e; exact Int.le_refl _
   ·exact Int.le_trans (h k (by omega) hk (Nat.zero_le _)) (ih ((k - 1) / 2) (by omega) (by omega))
section
variable {n : Nat} {xs : List Int} {full : Bool}
noncomputable def sV (n lo hi f : Nat) (x4 : PV) : List PV := [.vec 1 0 n, i64 (lo : Nat), i64 (hi : Nat), i64 (f : Nat), x4, .junk, .junk, .junk, .junk]
theorem sift_ok (hx : xs.length = n) (hn : n < 1000000) {f lo hi : Nat} (hb : f + hi ≤ n) (hlo : lo < 1000000) (hp : Hp f (lo + 1) hi xs) : PCall E [0] 85 [.vec 1 0 n, i64 (lo : Nat), i64 (hi : Nat), i64 (f : Nat)] (dH xs n full) (swQ n full f (f + hi) xs fun v ys => v = .tup [] ∧ Hp f lo hi ys) := by
 refine p_fn ?_
 show PTri E false [0] _ [.vec 1 0 n, i64 (lo : Nat), i64 (hi : Nat), i64 (f : Nat), .junk, .junk, .junk, .junk, .junk] _ _
 unfold dH
 refine s_run ?_
 refine e_loop (ι := Nat × List Int) (fun s => lo ≤ s.1 ∧ s.1 < 1000000 ∧ Sw f (f + hi) xs s.2 ∧ HpR f lo hi s.1 s.2) (fun s => 1000000 - s.1) (fun s => sV n lo hi f (i64 (s.1 : Nat))) (fun s => dH s.2 n full) (lo, xs) ⟨Nat.le_refl _, hlo, .refl, .start hp⟩ (σ := [some 0]) (fz := []) (wk _ [] _ _ (vals := by (try dsimp only [sV]); (repeat' (first | exact VSubs.nil | apply VSubs.cons | exact VSub.one (VSub1.junk _) | exact VSub.nlv rfl | exact VSub.one (VSub1.vec rfl rfl)))) (blks := .cons bs_same .nil)) ?_
 rintro ⟨r, ys⟩ ⟨h1, h1', h2, h3⟩
 dsimp only at h1 h1' h2 h3 ⊢
 have hyl : ys.length = n := h2.len.trans hx
 unfold sV dH
 refine p_block ?_
 refine s_reg (g_run 1 ?_)
 refine prg_head (v' := i64 (2 * r : Nat)) rfl ?_
 refine g_run 1 ?_
 refine prg_head (v' := i64 (2 * r + 1 : Nat)) rfl ?_
 refine g_end ?_
 refine s_ass (s_run ?_)
 refine s_cond (fun c1 => ?_) (fun c1 => ?_)
 ·simp only [ge_iff_le, decide_eq_true_eq] at c1
  refine s_exit ?_
  exact fin (R := swQ n full f (f + hi) xs fun v ys => v = .tup [] ∧ Hp f lo hi ys) (res := []) ⟨ys, rfl, h2, rfl, h3.done fun c q1 q2 q3 => by omega⟩
 simp only [ge_iff_le, decide_eq_false_iff_not] at c1
 have hch : 2 * r + 1 < hi := by omega
 refine s_skip ?_
 -- the greater one of the two
 refine s_cut (fun T' hp' => ∃ (m : Nat) (x6 x7 : PV), T' = [.vec 1 0 n, i64 (lo : Nat), i64 (hi : Nat), i64 (f : Nat), i64 (r : Nat), i64 (m : Nat), x6, x7, .junk] ∧ hp' = [.vec 1 n (rowI .i64 ys) full] ∧ m < hi ∧ (m - 1) / 2 = r ∧ 1 ≤ m ∧ ∀ c, 1 ≤ c → c < hi → (c - 1) / 2 = r → ys.getD (f + c) 0 ≤ ys.getD (f + m) 0) ?_ ?_
 ·refine s_drw (g_run 1 ?_)
  refine prg_head (v' := i64 (2 * r + 1 + 1 : Nat)) rfl ?_
  refine g_run 1 ?_
  refine prg_split (fun c2 => ?_) (fun c2 => ?_)
  ·simp only [decide_eq_true_eq] at c2
   have hch2 : 2 * r + 1 + 1 < hi := by omega
   refine g_run 4 ?_
   refine prg_head (v' := i64 (f + (2 * r + 1) : Nat)) rfl ?_
   refine g_run 6 ?_
   refine prg_head (v' := i64 (f + (2 * r + 1) : Nat)) rfl ?_
   refine g_run 1 ?_
   refine prg_head (v' := i64 (f + (2 * r + 1) + 1 : Nat)) rfl ?_
   refine g_run 2 ?_
   refine g_call (less_ok _ _) ?_
   rintro v rfl
   refine ⟨rfl, ?_⟩
   refine g_end ?_
   refine e_cond (fun c3 => ?_) (fun c3 => ?_)
   ·simp only [decide_eq_true_eq] at c3
    refine e_reg (g_run 1 ?_)
    refine prg_head (v' := i64 (2 * r + 1 + 1 : Nat)) rfl ?_
    refine g_end ?_
    refine ⟨rfl, 2 * r + 1 + 1, _, _, rfl, rfl, hch2, by omega, by omega, fun c q1 q2 q3 => ?_⟩
    have : c = 2 * r + 1 ∨ c = 2 * r + 1 + 1 := by omega
    rcases this with rfl | rfl
    ·exact Int.le_of_lt c3
    ·exact Int.le_refl _
   ·simp only [decide_eq_false_iff_not] at c3
    refine p_skip ?_
    refine ⟨rfl, 2 * r + 1, _, _, rfl, rfl, hch, by omega, by omega, fun c q1 q2 q3 => ?_⟩
    have : c = 2 * r + 1 ∨ c = 2 * r + 1 + 1 := by omega
    rcases this with rfl | rfl
    ·exact Int.le_refl _
    ·exact Int.not_lt.1 c3
  ·simp only [decide_eq_false_iff_not] at c2
   refine g_end ?_
   refine e_f ?_
   refine p_skip ?_
   refine ⟨rfl, 2 * r + 1, _, _, rfl, rfl, hch, by omega, by omega, fun c q1 q2 q3 => ?_⟩
   have : c = 2 * r + 1 := by omega
   subst this
   exact Int.le_refl _
 rintro T' hp' ⟨m, x6, x7, rfl, rfl, hm, hr, hm1, hmx⟩
 refine s_ass (s_drw (g_run 1 ?_))
 refine prg_head (v' := i64 (f + r : Nat)) rfl ?_
 refine g_run 3 ?_
 refine prg_head (v' := i64 (f + m : Nat)) rfl ?_
 refine g_run 2 ?_
 refine g_call (less_ok _ _) ?_
 rintro v rfl
 refine ⟨rfl, ?_⟩
 refine g_end ?_
 refine s_cond (fun c3 => ?_) (fun c3 => ?_)
 ·have c4 : ¬ ys.getD (f + r) 0 < ys.getD (f + m) 0 := by simpa using c3
  refine s_ret ?_
  exact fin (R := swQ n full f (f + hi) xs fun v ys => v = .tup [] ∧ Hp f lo hi ys) (res := []) ⟨ys, rfl, h2, rfl, h3.done fun c q1 q2 q3 => Int.le_trans (hmx c q1 q2 q3) (Int.not_lt.1 c4)⟩
 have c4 : ys.getD (f + r) 0 < ys.getD (f + m) 0 := by simpa using c3
 refine s_skip ?_
 refine s_drw (g_run 1 ?_)
 refine prg_head (v' := i64 (f + r : Nat)) rfl ?_
 refine g_run 1 ?_
 refine prg_head (v' := i64 (f + m : Nat)) rfl ?_
 refine g_run 3 ?_
 refine prg_head (v' := i64 (f + r : Nat)) rfl ?_
 refine g_run 5 ?_
 refine prg_head (v' := i64 (f + m : Nat)) rfl ?_
 refine g_end ?_
 refine e_run ?_
 refine lp_next (m, swp ys (f + r) (f + m)) ⟨by omega, by omega, .step h2 ⟨by omega, by omega⟩ ⟨by omega, by omega⟩, h3.step h1 (by omega) hm hr hm1 hmx c4⟩ (σ := [some 0]) (fz := []) (wk _ [] _ _ (vals := (by (try dsimp only [sV]); (repeat' (first | exact VSubs.nil | apply VSubs.cons | exact VSub.one (VSub1.junk _) | exact VSub.nlv rfl | exact VSub.one (VSub1.vec rfl rfl))))) (blks := .cons (bs_vec rfl (fun q hq => row_set2 rfl rfl (by omega)) (h := rfl) (hb := rfl)) .nil))
end
end Go.Proofs.Ytggaimcopbjdiaa.Graph
namespace Go.Proofs.Ytggaimcopbjdiaa.Graph
open Go.Proofs.Ytggaimcopbjdiaa.AM Go.Proofs.Ytggaimcopbjdiaa.Post
def pI : Nat → PV
 | 0 => .s (.int .i64 (-1))
 | k + 1 => i64 (k : Nat)
structure Pop (f k hi : Nat) (xs : List Int) : Prop where
 hp : Hp f 0 k xs
 srt : ∀ p q, k ≤ p → p ≤ q → q < hi → xs.getD (f + p) 0 ≤ xs.getD (f + q) 0
 le : ∀ p q, p < k → k ≤ q → q < hi → xs.getD (f + p) 0 ≤ xs.getD (f + q) 0
theorem pop_swap {f k hi : Nat} {xs : List Int} (h : Pop f (k + 1) hi xs) (hk : k < hi) (hl : f + hi ≤ xs.length) : Hp f 1 k (swp xs f (f + k)) ∧ (∀ p q, k ≤ p → p ≤ q → q < hi → (swp xs f (f + k)).getD (f + p) 0 ≤ (swp xs f (f + k)).getD (f + q) 0) ∧ ∀ p, p < k → ∀ q, k ≤ q → q < hi → (swp xs f (f + k)).getD (f + p) 0 ≤ (swp xs f (f + k)).getD (f + q) 0 := by
 have g : ∀ p, (swp xs f (f + k)).getD (f + p) 0 = if p = k then xs.getD f 0 else if p = 0 then xs.getD (f + k) 0 else xs.getD (f + p) 0 := fun p => by
  rw [swp_at (by omega) (by omega)]
  by_cases e1 : p = k
  ·rw [if_pos (by omega), if_pos e1]
  ·rw [if_neg (by omega), if_neg e1]
   by_cases e2 : p = 0
   ·rw [if_pos (by omega), if_pos e2]
   ·rw [if_neg (by omega), if_neg e2]
 have hmax := hp_max h.hp
 refine ⟨fun c h1 h2 h3 => ?_, fun p q h1 h2 h3 => ?_, fun p h1 q h2 h3 => ?_⟩
 ·rw [g, g, if_neg (by omega), if_neg (by omega), if_neg (by omega), if_neg (by omega)]
  exact h.hp c h1 (by omega) (Nat.zero_le _)
 ·rw [g, g]
  by_cases e1 : p = k
  ·rw [if_pos e1]
   by_cases e2 : q = k
   ·rw [if_pos e2]; exact Int.le_refl _
   ·rw [if_neg e2, if_neg (by omega)]
    exact h.le 0 q (by omega) (by omega) h3
  ·rw [if_neg e1, if_neg (by omega), if_neg (by omega), if_neg (by omega)]
   exact h.srt p q (by omega) h2 h3
 ·rw [g p, if_neg (by omega), g q]
  have hp : (if p = 0 then xs.getD (f + k) 0 else xs.getD (f + p) 0) ≤ xs.getD f 0 ∧ ∀ q, k + 1 ≤ q → q < hi → (if p = 0 then xs.getD (f + k) 0 else xs.getD (f + p) 0) ≤ xs.getD (f + q) 0 := by
   by_cases e : p = 0
   ·rw [if_pos e]; exact ⟨hmax k (by omega), fun q q1 q2 => h.le k q (by omega) q1 q2⟩
   ·rw [if_neg e]; exact ⟨hmax p (by omega), fun q q1 q2 => h.le p q (by omega) q1 q2⟩
  by_cases e2 : q = k
  ·rw [if_pos e2]; exact hp.1
  ·rw [if_neg e2, if_neg (show ¬ q = 0 by omega)]; exact hp.2 q (by omega) h3
section
variable {n : Nat} {xs : List Int} {full : Bool}
noncomputable def hV (n a b : Nat) (x6 x7 : PV) : List PV := [.vec 1 0 n, i64 (a : Nat), i64 (b : Nat), i64 (a : Nat), i64 ((0 : Nat) : Int), i64 (b - a : Nat), x6, x7, .junk, .junk]
theorem heap_ok (hx : xs.length = n) (hn : n < 1000000) {a b : Nat} (hab : a < b) (hb : b ≤ n) : PCall E [0] 74 [.vec 1 0 n, i64 (a : Nat), i64 (b : Nat)] (dH xs n full) (swQ n full a b xs fun v ys => v = .tup [] ∧ Srt a b ys) := by
 refine p_fn ?_
 show PTri E false [0] _ [.vec 1 0 n, i64 (a : Nat), i64 (b : Nat), .junk, .junk, .junk, .junk, .junk, .junk, .junk] _ _
 obtain ⟨l, rfl⟩ : ∃ l, b = a + l := ⟨b - a, by omega⟩
 have hsub : a + l - a = l := by omega
 unfold dH
 refine s_run ?_
 refine s_run ?_
 refine s_reg (g_run 1 ?_)
 refine prg_head (v' := i64 (a + l - a : Nat)) (by unfold i64; congr 2; omega) ?_
 refine g_end ?_
 refine s_ass (s_reg (g_run 1 ?_))
 refine prg_head (v' := i64 ((l - 1 : Nat) : Int)) (by unfold i64; congr 2; omega) ?_
 refine g_run 1 ?_
 refine prg_head (quo_nat (k := 2) (by omega)) ?_
 refine g_end ?_
 refine s_loop (ι := Nat × List Int) (fun s => s.1 < 1000000 ∧ Sw a (a + l) xs s.2 ∧ Hp a s.1 l s.2) (fun s => s.1) (fun s => hV n a (a + l) (pI s.1) .junk) (fun s => dH s.2 n full) ((l - 1) / 2 + 1, xs) ⟨by omega, .refl, fun c h1 h2 h3 => by omega⟩ (σ := [some 0]) (fz := []) (wk _ [] _ _ (vals := by (try dsimp only [hV, pI]); (repeat' (first | exact VSubs.nil | apply VSubs.cons | exact VSub.one (VSub1.junk _) | exact VSub.nlv rfl | exact VSub.one (VSub1.vec rfl rfl)))) (blks := .cons bs_same .nil)) ?_
 rintro ⟨k, ys⟩ ⟨h1, h2, h3⟩
 dsimp only at h1 h2 h3 ⊢
 have hyl : ys.length = n := h2.len.trans hx
 unfold hV dH
 rw [hsub]
 cases k with
 | succ k =>
   refine s_ass (s_reg (g_run 1 ?_))
   refine prg_head (v' := .s (.bool true)) (by rw [decide_eq_true (by omega)]) ?_
   refine g_end ?_
   refine s_t (s_skip (s_block ?_))
   refine e_reg ?_
   refine g_scall [0] [] (args' := [.vec 1 0 n, i64 (k : Nat), i64 (l : Nat), i64 (a : Nat)]) (hpc := dH ys n full) (sift_ok hyl hn (by omega) (by omega) h3) (wk _ [] _ _ (vals := .cons (.one (.vec rfl rfl)) (.cons (.nlv rfl) (.cons (.nlv rfl) (.cons (.nlv rfl) .nil)))) (blks := .cons bs_same .nil)) ?_
   rintro v hpc' ⟨zs, rfl, g1, rfl, g2⟩
   refine ⟨rfl, rfl, Nat.le_refl _, ?_⟩
   refine g_end ?_
   refine e_reg (g_run 1 ?_)
   refine prg_head (v' := pI k) (by cases k with | zero => rfl | succ k => unfold pI i64; congr 2; omega) ?_
   refine g_fin ?_
   refine lp_next (k, zs) ⟨by omega, h2.trans g1, g2⟩ (σ := [some 0]) (fz := []) (wk _ [] _ _ (vals := by (try dsimp only [hV]); (try rw [hsub]); (repeat' (first | exact VSubs.nil | apply VSubs.cons | exact VSub.one (VSub1.junk _) | exact VSub.nlv rfl | exact VSub.one (VSub1.vec rfl rfl) | (refine VSub.nlv ?_; cases k <;> rfl)))) (blks := .cons bs_same .nil))
 | zero =>
   refine s_ass (s_reg (g_run 1 ?_))
   refine prg_head (v' := .s (.bool false)) rfl ?_
   refine g_end ?_
   refine s_f (s_exit ?_)
   refine s_reg (g_run 1 ?_)
   refine prg_head (v' := pI l) (by cases l with | zero => omega | succ l => unfold pI i64; congr 2; omega) ?_
   refine g_fin ?_
   refine e_loop (ι := Nat × List Int) (fun s => s.1 ≤ l ∧ Sw a (a + l) xs s.2 ∧ Pop a s.1 l s.2) (fun s => s.1) (fun s => hV n a (a + l) .junk (pI s.1)) (fun s => dH s.2 n full) (l, ys) ⟨Nat.le_refl _, h2, h3, fun p q q1 q2 q3 => by omega, fun p q q1 q2 q3 => by omega⟩ (σ := [some 0]) (fz := []) (wk _ [] _ _ (vals := by (try dsimp only [hV]); (try rw [hsub]); (repeat' (first | exact VSubs.nil | apply VSubs.cons | exact VSub.one (VSub1.junk _) | exact VSub.nlv rfl | exact VSub.one (VSub1.vec rfl rfl) | (refine VSub.nlv ?_; cases l <;> rfl)))) (blks := .cons bs_same .nil)) ?_
   rintro ⟨k, ys⟩ ⟨h1, h2, h3⟩
   dsimp only at h1 h2 h3 ⊢
   have hyl : ys.length = n := h2.len.trans hx
   unfold hV dH
   rw [hsub]
   cases k with
   | zero =>
     refine s_ass (s_reg (g_run 1 ?_))
     refine prg_head (v' := .s (.bool false)) rfl ?_
     refine g_end ?_
     refine s_f (s_exit ?_)
     refine fin (R := swQ n full a (a + l) xs fun v ys => v = .tup [] ∧ Srt a (a + l) ys) (res := []) ⟨ys, rfl, h2, rfl, fun i j q1 q2 q3 => ?_⟩
     have := h3.srt (i - a) (j - a) (Nat.zero_le _) (by omega) (by omega)
     rwa [show a + (i - a) = i by omega, show a + (j - a) = j by omega] at this
   | succ k =>
     obtain ⟨w1, w2, w3⟩ := pop_swap h3 (by omega) (by omega)
     refine s_ass (s_reg (g_run 1 ?_))
     refine prg_head (v' := .s (.bool true)) (by rw [decide_eq_true (by omega)]) ?_
     refine g_end ?_
     refine s_t (s_skip (s_block ?_))
     refine s_drw (g_run 1 ?_)
     refine prg_head (v' := i64 (a + k : Nat)) rfl ?_
     refine g_run 7 ?_
     refine prg_head (v' := i64 (a + k : Nat)) rfl ?_
     refine g_end ?_
     have hsl : (swp ys a (a + k)).length = n := swp_len.trans hyl
     refine e_reg ?_
     refine g_scall [0] [] (args' := [.vec 1 0 n, i64 ((0 : Nat) : Int), i64 (k : Nat), i64 (a : Nat)]) (hpc := dH (swp ys a (a + k)) n full) (sift_ok hsl hn (by omega) (by omega) w1) (wk _ [] _ _ (vals := .cons (.one (.vec rfl rfl)) (.cons (.nlv rfl) (.cons (.nlv rfl) (.cons (.nlv rfl) .nil)))) (blks := .cons (bs_vec rfl (fun q hq => row_set2 rfl rfl (by omega)) (h := rfl) (hb := rfl)) .nil)) ?_
     rintro v hpc' ⟨zs, rfl, g1, rfl, g2⟩
     refine ⟨rfl, rfl, Nat.le_refl _, ?_⟩
     refine g_end ?_
     refine e_reg (g_run 1 ?_)
     refine prg_head (v' := pI k) (by cases k with | zero => rfl | succ k => unfold pI i64; congr 2; omega) ?_
     refine g_fin ?_
     have hout : ∀ q, k ≤ q → zs.getD (a + q) 0 = (swp ys a (a + k)).getD (a + q) 0 := fun q hq => g1.out (by omega) (.inr (by omega))
     refine lp_next (k, zs) ⟨by omega, (h2.trans (.one ⟨by omega, by omega⟩ ⟨by omega, by omega⟩)).trans (g1.mono (Nat.le_refl _) (by omega)), g2, fun p q q1 q2 q3 => by rw [hout p q1, hout q (by omega)]; exact w2 p q q1 q2 q3, fun p q q1 q2 q3 => ?_⟩ (σ := [some 0]) (fz := []) (wk _ [] _ _ (vals := by (try dsimp only [hV]); (try rw [hsub]); (repeat' (first | exact VSubs.nil | apply VSubs.cons | exact VSub.one (VSub1.junk _) | exact VSub.nlv rfl | exact VSub.one (VSub1.vec rfl rfl) | (refine VSub.nlv ?_; cases k <;> rfl)))) (blks := .cons bs_same .nil))
     rw [hout q q2]
     exact g1.all (Q := fun z => z ≤ (swp ys a (a + k)).getD (a + q) 0) (by omega) (fun i i1 i2 => by
      have := w3 (i - a) (by omega) q q2 q3
      rwa [show a + (i - a) = i by omega] at this) (a + p) (by omega) (by omega)
end
end Go.Proofs.Ytggaimcopbjdiaa.Graph
namespace Go.Proofs.Ytggaimcopbjdiaa.Graph
open Go.Proofs.Ytggaimcopbjdiaa.AM Go.Proofs.Ytggaimcopbjdiaa.Post
structure Prt (Lo Hi : Int → Prop) (a b i j : Nat) (pv : Int) (xs ys : List Int) : Prop where
 sw : Sw a b xs ys
 pv : ys.getD a 0 = pv
 i1 : a + 1 ≤ i
 ij : i ≤ j + 1
 jb : j < b
 lo : ∀ k, a < k → k < i → Lo (ys.getD k 0)
 hi : ∀ k, j < k → k < b → Hi (ys.getD k 0)
section
variable {Lo Hi : Int → Prop} {a b i j : Nat} {pv : Int} {xs ys : List Int}
theorem Prt.up (h : Prt Lo Hi a b i j pv xs ys) (hij : i ≤ j) (hl : Lo (ys.getD i 0)) : Prt Lo Hi a b (i + 1) j pv xs ys :=
 ⟨h.sw, h.pv, by have := h.i1; omega, by omega, h.jb, fun k q1 q2 => by
  by_cases e : k = i
  ·rw [e]; exact hl
  ·exact h.lo k q1 (by omega), h.hi⟩
theorem Prt.down (h : Prt Lo Hi a b i j pv xs ys) (hij : i ≤ j) (hl : Hi (ys.getD j 0)) : Prt Lo Hi a b i (j - 1) pv xs ys :=
 ⟨h.sw, h.pv, h.i1, by have := h.i1; omega, by have := h.jb; omega, h.lo, fun k q1 q2 => by
  by_cases e : k = j
  ·rw [e]; exact hl
  ·have := h.i1; exact h.hi k (by omega) q2⟩
theorem Prt.swap (h : Prt Lo Hi a b i j pv xs ys) (hb : b ≤ ys.length) (hij : i ≤ j) (hi : Hi (ys.getD i 0)) (hj : Lo (ys.getD j 0)) (hd : ∀ z, Lo z → Hi z → False) : Prt Lo Hi a b (i + 1) (j - 1) pv xs (swp ys i j) := by
 have h1 := h.i1
 have h2 := h.jb
 have hne : i ≠ j := fun e => hd _ hj (e ▸ hi)
 refine ⟨.step h.sw ⟨by omega, by omega⟩ ⟨by omega, by omega⟩, ?_, by omega, by omega, by omega, fun k q1 q2 => ?_, fun k q1 q2 => ?_⟩
 ·rw [swp_at (by omega) (by omega), if_neg (by omega), if_neg (by omega)]; exact h.pv
 ·rw [swp_at (by omega) (by omega), if_neg (by omega)]
  by_cases e : k = i
  ·rw [if_pos e]; exact hj
  ·rw [if_neg e]; exact h.lo k q1 (by omega)
 ·rw [swp_at (by omega) (by omega)]
  by_cases e : k = j
  ·rw [if_pos e]; exact hi
  ·rw [if_neg e, if_neg (by omega)]; exact h.hi k (by omega) q2
end
section
variable {n : Nat} {xs : List Int} {full : Bool}
theorem partition_ok (hx : xs.length = n) (hn : n < 1000000) {a b p : Nat} (hb : b ≤ n) (hap : a ≤ p) (hpb : p < b) : PCall E [0] 81 [.vec 1 0 n, i64 (a : Nat), i64 (b : Nat), i64 (p : Nat)] (dH xs n full) (swQ n full a b xs fun v ys => ∃ (m : Nat) (t : Bool), v = .tup [i64 (m : Nat), .s (.bool t)] ∧ a ≤ m ∧ m < b ∧ (∀ k, a ≤ k → k < m → ys.getD k 0 ≤ ys.getD m 0) ∧ ∀ k, m < k → k < b → ys.getD m 0 ≤ ys.getD k 0) := by
 refine p_fn ?_
 show PTri E false [0] _ [.vec 1 0 n, i64 (a : Nat), i64 (b : Nat), i64 (p : Nat), .junk, .junk, .junk, .junk, .junk, .junk, .junk, .junk, .junk, .junk] _ _
 unfold dH
 refine s_run ?_
 refine d_run ?_
 refine s_reg (g_run 1 ?_)
 refine prg_head (v' := i64 (a + 1 : Nat)) rfl ?_
 refine g_run 1 ?_
 refine prg_head (v' := i64 ((b - 1 : Nat) : Int)) (by unfold i64; congr 2; omega) ?_
 refine g_end ?_
 obtain ⟨pv, hpv⟩ : ∃ pv, (swp xs a p).getD a 0 = pv := ⟨_, rfl⟩
 have hsl : (swp xs a p).length = n := swp_len.trans hx
 have h0 : Prt (· < pv) (pv ≤ ·) a b (a + 1) (b - 1) pv xs (swp xs a p) := ⟨.one ⟨Nat.le_refl _, by omega⟩ ⟨hap, hpb⟩, hpv, Nat.le_refl _, by omega, by omega, fun k q1 q2 => by omega, fun k q1 q2 => by omega⟩
 have hd : ∀ z : Int, z < pv → pv ≤ z → False := fun z h1 h2 => by omega
 -- the end: the pivot to its place
 have post : ∀ {i j : Nat} {ys : List Int}, Prt (· < pv) (pv ≤ ·) a b i j pv xs ys → ¬ i ≤ j → Sw a b xs (swp ys j a) ∧ a ≤ j ∧ j < b ∧ (∀ k, a ≤ k → k < j → (swp ys j a).getD k 0 ≤ (swp ys j a).getD j 0) ∧ ∀ k, j < k → k < b → (swp ys j a).getD j 0 ≤ (swp ys j a).getD k 0 := by
  intro i j ys h hij
  have h1 := h.i1
  have h2 := h.ij
  have h3 := h.jb
  have hl : ys.length = n := h.sw.len.trans hx
  have hij' : i = j + 1 := by omega
  have g : ∀ k, (swp ys j a).getD k 0 = if k = a then ys.getD j 0 else if k = j then ys.getD a 0 else ys.getD k 0 := fun k => swp_at (by omega) (by omega)
  have gj : (swp ys j a).getD j 0 = pv := by
   rw [g]
   by_cases e : j = a
   ·rw [if_pos e, e]; exact h.pv
   ·rw [if_neg e, if_pos rfl]; exact h.pv
  refine ⟨.step h.sw ⟨by omega, h3⟩ ⟨Nat.le_refl _, by omega⟩, by omega, h3, fun k q1 q2 => ?_, fun k q1 q2 => ?_⟩
  ·rw [gj, g]
   by_cases e : k = a
   ·rw [if_pos e]
    exact Int.le_of_lt (h.lo j (by omega) (by omega))
   ·rw [if_neg e, if_neg (by omega)]
    exact Int.le_of_lt (h.lo k (by omega) (by omega))
  ·rw [gj, g, if_neg (by omega), if_neg (by omega)]
   exact h.hi k q1 q2
 refine p_weak [some 0] [] (wk _ [] ([.vec 1 0 n, i64 (a : Nat), i64 (b : Nat), .junk, i64 0, .s (.bool false), i64 (a + 1 : Nat), i64 (b - 1 : Nat), .junk, .junk, .junk, .junk, .junk, .junk]) [.vec 1 n (rowI .i64 (swp xs a p)) full] (vals := (by (repeat' (first | exact VSubs.nil | apply VSubs.cons | exact VSub.one (VSub1.junk _) | exact VSub.nlv rfl | exact VSub.one (VSub1.vec rfl rfl))))) (blks := .cons (bs_vec rfl (fun q hq => row_set2 rfl rfl (by omega)) (h := rfl) (hb := rfl)) .nil)) ?_
 generalize swp xs a p = ys at h0 hsl ⊢
 generalize hi0 : a + 1 = i at h0 ⊢
 generalize hj0 : b - 1 = j at h0 ⊢
 have hi1 := h0.i1
 have hj1 := h0.jb
 refine s_cut (fun T' hp' => ∃ (m : Nat) (x8 : PV), T' = [.vec 1 0 n, i64 (a : Nat), i64 (b : Nat), .junk, i64 0, .s (.bool false), i64 (m : Nat), i64 (j : Nat), x8, .junk, .junk, .junk, .junk, .junk] ∧ hp' = [.vec 1 n (rowI .i64 ys) full] ∧ Prt (· < pv) (pv ≤ ·) a b m j pv xs ys ∧ i ≤ m ∧ (m ≤ j → ¬ (ys.getD m 0 < ys.getD a 0))) ?_ ?_
 ·refine e_loop (ι := Nat) (fun m => Prt (· < pv) (pv ≤ ·) a b m j pv xs ys ∧ i ≤ m) (fun m => b + 1 - m) (fun m => [.vec 1 0 n, i64 (a : Nat), i64 (b : Nat), .junk, i64 0, .s (.bool false), i64 (m : Nat), i64 (j : Nat), .junk, .junk, .junk, .junk, .junk, .junk]) (fun _ => [.vec 1 n (rowI .i64 ys) full]) i ⟨h0, Nat.le_refl _⟩ (σ := [some 0]) (fz := []) (wk _ [] _ _ (vals := (by (repeat' (first | exact VSubs.nil | apply VSubs.cons | exact VSub.one (VSub1.junk _) | exact VSub.nlv rfl | exact VSub.one (VSub1.vec rfl rfl))))) (blks := .cons bs_same .nil)) ?_
  rintro m ⟨hm, hbd⟩
  have q1 := hm.i1
  have q2 := hm.jb
  have q3 := hm.ij
  refine s_ass (s_drw (g_run 1 ?_))
  refine prg_split (fun c1 => ?_) (fun c1 => ?_)
  ·simp only [decide_eq_true_eq] at c1
   refine g_run 8 ?_
   refine g_call (less_ok _ _) ?_
   rintro v rfl
   refine ⟨rfl, ?_⟩
   refine g_end ?_
   refine s_cond (fun c2 => ?_) (fun c2 => ?_)
   ·have c3 : ys.getD m 0 < ys.getD a 0 := by simpa using c2
    refine s_skip (p_block ?_)
    refine e_run ?_
    refine lp_next (m + 1) ⟨hm.up (by omega) (by rw [hm.pv] at c3; exact c3), by omega⟩ (σ := [some 0]) (fz := []) (wk _ [] _ _ (vals := (by (repeat' (first | exact VSubs.nil | apply VSubs.cons | exact VSub.one (VSub1.junk _) | exact VSub.nlv rfl | exact VSub.one (VSub1.vec rfl rfl))))) (blks := .cons bs_same .nil))
   ·have c3 : ¬ (ys.getD m 0 < ys.getD a 0) := by simpa using c2
    refine s_exit ?_
    exact ⟨rfl, m, _, rfl, rfl, hm, hbd, fun _ => c3⟩
  ·simp only [decide_eq_false_iff_not] at c1
   refine g_end ?_
   refine s_f ?_
   refine s_exit ?_
   exact ⟨rfl, m, _, rfl, rfl, hm, hbd, fun q => by omega⟩
 rintro T' hp' ⟨i', x8, rfl, rfl, hu, lu, eu⟩
 clear h0
 have hi2 := hu.i1
 refine s_cut (fun T' hp' => ∃ (m : Nat) (x8 : PV) (x9 : PV), T' = [.vec 1 0 n, i64 (a : Nat), i64 (b : Nat), .junk, i64 0, .s (.bool false), i64 (i' : Nat), i64 (m : Nat), x8, x9, .junk, .junk, .junk, .junk] ∧ hp' = [.vec 1 n (rowI .i64 ys) full] ∧ Prt (· < pv) (pv ≤ ·) a b i' m pv xs ys ∧ m ≤ j ∧ (i' ≤ m → ¬ (¬ ys.getD m 0 < ys.getD a 0))) ?_ ?_
 ·refine e_loop (ι := Nat) (fun m => Prt (· < pv) (pv ≤ ·) a b i' m pv xs ys ∧ m ≤ j) (fun m => m) (fun m => [.vec 1 0 n, i64 (a : Nat), i64 (b : Nat), .junk, i64 0, .s (.bool false), i64 (i' : Nat), i64 (m : Nat), .junk, .junk, .junk, .junk, .junk, .junk]) (fun _ => [.vec 1 n (rowI .i64 ys) full]) j ⟨hu, Nat.le_refl _⟩ (σ := [some 0]) (fz := []) (wk _ [] _ _ (vals := (by (repeat' (first | exact VSubs.nil | apply VSubs.cons | exact VSub.one (VSub1.junk _) | exact VSub.nlv rfl | exact VSub.one (VSub1.vec rfl rfl))))) (blks := .cons bs_same .nil)) ?_
  rintro m ⟨hm, hbd⟩
  have q1 := hm.i1
  have q2 := hm.jb
  have q3 := hm.ij
  refine s_ass (s_drw (g_run 1 ?_))
  refine prg_split (fun c1 => ?_) (fun c1 => ?_)
  ·simp only [decide_eq_true_eq] at c1
   refine g_run 8 ?_
   refine g_call (less_ok _ _) ?_
   rintro v rfl
   refine ⟨rfl, ?_⟩
   refine g_end ?_
   refine s_cond (fun c2 => ?_) (fun c2 => ?_)
   ·have c3 : ¬ ys.getD m 0 < ys.getD a 0 := by simpa using c2
    refine s_skip (p_block ?_)
    refine e_reg (g_run 1 ?_)
    refine prg_head (v' := i64 ((m - 1 : Nat) : Int)) (by unfold i64; congr 2; omega) ?_
    refine g_end ?_
    refine lp_next (m - 1) ⟨hm.down (by omega) (by rw [hm.pv] at c3; exact Int.not_lt.1 c3), by omega⟩ (σ := [some 0]) (fz := []) (wk _ [] _ _ (vals := (by (repeat' (first | exact VSubs.nil | apply VSubs.cons | exact VSub.one (VSub1.junk _) | exact VSub.nlv rfl | exact VSub.one (VSub1.vec rfl rfl))))) (blks := .cons bs_same .nil))
   ·have c3 : ¬ (¬ ys.getD m 0 < ys.getD a 0) := by simpa using c2
    refine s_exit ?_
    exact ⟨rfl, m, _, _, rfl, rfl, hm, hbd, fun _ => c3⟩
  ·simp only [decide_eq_false_iff_not] at c1
   refine g_end ?_
   refine s_f ?_
   refine s_exit ?_
   exact ⟨rfl, m, _, _, rfl, rfl, hm, hbd, fun q => by omega⟩
 rintro T' hp' ⟨j', x8, x9, rfl, rfl, hw, lw, ew⟩
 have hj2 := hw.jb
 have hij2 := hw.ij
 refine s_ass (s_run ?_)
 refine s_cond (fun c1 => ?_) (fun c1 => ?_)
 ·simp only [gt_iff_lt, decide_eq_true_eq] at c1
  obtain ⟨w1, w2, w3, w4, w5⟩ := post hw (by omega)
  refine s_ass (d_run ?_)
  refine p_weak [some 0] [] (wk _ [] ([.vec 1 0 n, i64 (a : Nat), i64 (b : Nat), .junk, .junk, .junk, .junk, i64 (j' : Nat), .junk, .junk, .junk, .junk, .junk, .junk]) [.vec 1 n (rowI .i64 (swp ys j' a)) full] (vals := (by (repeat' (first | exact VSubs.nil | apply VSubs.cons | exact VSub.one (VSub1.junk _) | exact VSub.nlv rfl | exact VSub.one (VSub1.vec rfl rfl))))) (blks := .cons (bs_vec rfl (fun q hq => row_set2 rfl rfl (by omega)) (h := rfl) (hb := rfl)) .nil)) ?_
  refine s_ass (s_run ?_)
  refine s_ret ?_
  exact fin (R := swQ n full a b xs fun v ys => ∃ (m : Nat) (t : Bool), v = .tup [i64 (m : Nat), .s (.bool t)] ∧ a ≤ m ∧ m < b ∧ (∀ k, a ≤ k → k < m → ys.getD k 0 ≤ ys.getD m 0) ∧ ∀ k, m < k → k < b → ys.getD m 0 ≤ ys.getD k 0) (res := [.tmp 4, .tmp 5]) ⟨swp ys j' a, rfl, w1, j', true, rfl, w2, w3, w4, w5⟩
 simp only [gt_iff_lt, decide_eq_false_iff_not] at c1
 have hlt : i' ≤ j' := by omega
 have hsw := hw.swap (by omega) hlt (by have := eu (by omega); rw [hw.pv] at this; exact Int.not_lt.1 this) (by have := ew (by omega); rw [hw.pv] at this; exact Decidable.byContradiction this) hd
 refine s_skip ?_
 refine d_run ?_
 refine s_run ?_
 refine s_reg (g_run 1 ?_)
 refine prg_head (v' := i64 ((j' - 1 : Nat) : Int)) (by unfold i64; congr 2; omega) ?_
 refine g_end ?_
 refine s_cut (fun T' hp' => ∃ (i j : Nat) (ys : List Int) (x11 x12 x13 : PV), T' = [.vec 1 0 n, i64 (a : Nat), i64 (b : Nat), .junk, i64 0, .s (.bool false), i64 (i : Nat), i64 (j : Nat), .junk, .junk, .junk, x11, x12, x13] ∧ hp' = [.vec 1 n (rowI .i64 ys) full] ∧ Prt (· < pv) (pv ≤ ·) a b i j pv xs ys ∧ ¬ i ≤ j) ?_ ?_
 ·refine e_loop (ι := Nat × Nat × List Int) (fun s => Prt (· < pv) (pv ≤ ·) a b s.1 s.2.1 pv xs s.2.2) (fun s => b + s.2.1 + 2 - s.1) (fun s => [.vec 1 0 n, i64 (a : Nat), i64 (b : Nat), .junk, i64 0, .s (.bool false), i64 (s.1 : Nat), i64 (s.2.1 : Nat), .junk, .junk, .junk, .junk, .junk, .junk]) (fun s => [.vec 1 n (rowI .i64 s.2.2) full]) (i' + 1, j' - 1, swp ys i' j') hsw (σ := [some 0]) (fz := []) (wk _ [] _ _ (vals := (by (repeat' (first | exact VSubs.nil | apply VSubs.cons | exact VSub.one (VSub1.junk _) | exact VSub.nlv rfl | exact VSub.one (VSub1.vec rfl rfl))))) (blks := (.cons (bs_vec rfl (fun q hq => row_set2 rfl rfl (by omega)) (h := rfl) (hb := rfl)) .nil))) ?_
  clear hsw hw ew eu hu hlt c1
  rintro ⟨i, j, ys⟩ h0
  dsimp only at h0 ⊢
  have hsl : ys.length = n := h0.sw.len.trans hx
  have hi1 := h0.i1
  have hj1 := h0.jb
  refine p_block ?_
  refine s_cut (fun T' hp' => ∃ (m : Nat) (x11 : PV), T' = [.vec 1 0 n, i64 (a : Nat), i64 (b : Nat), .junk, i64 0, .s (.bool false), i64 (m : Nat), i64 (j : Nat), .junk, .junk, .junk, x11, .junk, .junk] ∧ hp' = [.vec 1 n (rowI .i64 ys) full] ∧ Prt (· < pv) (pv ≤ ·) a b m j pv xs ys ∧ i ≤ m ∧ (m ≤ j → ¬ (ys.getD m 0 < ys.getD a 0))) ?_ ?_
  ·refine e_loop (ι := Nat) (fun m => Prt (· < pv) (pv ≤ ·) a b m j pv xs ys ∧ i ≤ m) (fun m => b + 1 - m) (fun m => [.vec 1 0 n, i64 (a : Nat), i64 (b : Nat), .junk, i64 0, .s (.bool false), i64 (m : Nat), i64 (j : Nat), .junk, .junk, .junk, .junk, .junk, .junk]) (fun _ => [.vec 1 n (rowI .i64 ys) full]) i ⟨h0, Nat.le_refl _⟩ (σ := [some 0]) (fz := []) (wk _ [] _ _ (vals := (by (repeat' (first | exact VSubs.nil | apply VSubs.cons | exact VSub.one (VSub1.junk _) | exact VSub.nlv rfl | exact VSub.one (VSub1.vec rfl rfl))))) (blks := .cons bs_same .nil)) ?_
   rintro m ⟨hm, hbd⟩
   have q1 := hm.i1
   have q2 := hm.jb
   have q3 := hm.ij
   refine s_ass (s_drw (g_run 1 ?_))
   refine prg_split (fun c1 => ?_) (fun c1 => ?_)
   ·simp only [decide_eq_true_eq] at c1
    refine g_run 8 ?_
    refine g_call (less_ok _ _) ?_
    rintro v rfl
    refine ⟨rfl, ?_⟩
    refine g_end ?_
    refine s_cond (fun c2 => ?_) (fun c2 => ?_)
    ·have c3 : ys.getD m 0 < ys.getD a 0 := by simpa using c2
     refine s_skip (p_block ?_)
     refine e_run ?_
     refine lp_next (m + 1) ⟨hm.up (by omega) (by rw [hm.pv] at c3; exact c3), by omega⟩ (σ := [some 0]) (fz := []) (wk _ [] _ _ (vals := (by (repeat' (first | exact VSubs.nil | apply VSubs.cons | exact VSub.one (VSub1.junk _) | exact VSub.nlv rfl | exact VSub.one (VSub1.vec rfl rfl))))) (blks := .cons bs_same .nil))
    ·have c3 : ¬ (ys.getD m 0 < ys.getD a 0) := by simpa using c2
     refine s_exit ?_
     exact ⟨rfl, m, _, rfl, rfl, hm, hbd, fun _ => c3⟩
   ·simp only [decide_eq_false_iff_not] at c1
    refine g_end ?_
    refine s_f ?_
    refine s_exit ?_
    exact ⟨rfl, m, _, rfl, rfl, hm, hbd, fun q => by omega⟩
  rintro T' hp' ⟨i', x11, rfl, rfl, hu, lu, eu⟩
  have hmv := hu.ij
  have hi2 := hu.i1
  refine s_cut (fun T' hp' => ∃ (m : Nat) (x11 : PV) (x12 : PV), T' = [.vec 1 0 n, i64 (a : Nat), i64 (b : Nat), .junk, i64 0, .s (.bool false), i64 (i' : Nat), i64 (m : Nat), .junk, .junk, .junk, x11, x12, .junk] ∧ hp' = [.vec 1 n (rowI .i64 ys) full] ∧ Prt (· < pv) (pv ≤ ·) a b i' m pv xs ys ∧ m ≤ j ∧ (i' ≤ m → ¬ (¬ ys.getD m 0 < ys.getD a 0))) ?_ ?_
  ·refine e_loop (ι := Nat) (fun m => Prt (· < pv) (pv ≤ ·) a b i' m pv xs ys ∧ m ≤ j) (fun m => m) (fun m => [.vec 1 0 n, i64 (a : Nat), i64 (b : Nat), .junk, i64 0, .s (.bool false), i64 (i' : Nat), i64 (m : Nat), .junk, .junk, .junk, .junk, .junk, .junk]) (fun _ => [.vec 1 n (rowI .i64 ys) full]) j ⟨hu, Nat.le_refl _⟩ (σ := [some 0]) (fz := []) (wk _ [] _ _ (vals := (by (repeat' (first | exact VSubs.nil | apply VSubs.cons | exact VSub.one (VSub1.junk _) | exact VSub.nlv rfl | exact VSub.one (VSub1.vec rfl rfl))))) (blks := .cons bs_same .nil)) ?_
   rintro m ⟨hm, hbd⟩
   have q1 := hm.i1
   have q2 := hm.jb
   have q3 := hm.ij
   refine s_ass (s_drw (g_run 1 ?_))
   refine prg_split (fun c1 => ?_) (fun c1 => ?_)
   ·simp only [decide_eq_true_eq] at c1
    refine g_run 8 ?_
    refine g_call (less_ok _ _) ?_
    rintro v rfl
    refine ⟨rfl, ?_⟩
    refine g_end ?_
    refine s_cond (fun c2 => ?_) (fun c2 => ?_)
    ·have c3 : ¬ ys.getD m 0 < ys.getD a 0 := by simpa using c2
     refine s_skip (p_block ?_)
     refine e_reg (g_run 1 ?_)
     refine prg_head (v' := i64 ((m - 1 : Nat) : Int)) (by unfold i64; congr 2; omega) ?_
     refine g_end ?_
     refine lp_next (m - 1) ⟨hm.down (by omega) (by rw [hm.pv] at c3; exact Int.not_lt.1 c3), by omega⟩ (σ := [some 0]) (fz := []) (wk _ [] _ _ (vals := (by (repeat' (first | exact VSubs.nil | apply VSubs.cons | exact VSub.one (VSub1.junk _) | exact VSub.nlv rfl | exact VSub.one (VSub1.vec rfl rfl))))) (blks := .cons bs_same .nil))
    ·have c3 : ¬ (¬ ys.getD m 0 < ys.getD a 0) := by simpa using c2
     refine s_exit ?_
     exact ⟨rfl, m, _, _, rfl, rfl, hm, hbd, fun _ => c3⟩
   ·simp only [decide_eq_false_iff_not] at c1
    refine g_end ?_
    refine s_f ?_
    refine s_exit ?_
    exact ⟨rfl, m, _, _, rfl, rfl, hm, hbd, fun q => by omega⟩
  rintro T' hp' ⟨j', x11, x12, rfl, rfl, hw, lw, ew⟩
  have hj2 := hw.jb
  have hij2 := hw.ij
  refine s_ass (s_run ?_)
  refine s_cond (fun c1 => ?_) (fun c1 => ?_)
  ·simp only [gt_iff_lt, decide_eq_true_eq] at c1
   refine s_exit ?_
   exact ⟨rfl, i', j', ys, _, _, _, rfl, rfl, hw, by omega⟩
  simp only [gt_iff_lt, decide_eq_false_iff_not] at c1
  have hlt : i' ≤ j' := by omega
  have hsw := hw.swap (by omega) hlt (by have := eu (by omega); rw [hw.pv] at this; exact Int.not_lt.1 this) (by have := ew (by omega); rw [hw.pv] at this; exact Decidable.byContradiction this) hd
  refine s_skip ?_
  refine d_run ?_
  refine s_run ?_
  refine e_reg (g_run 1 ?_)
  refine prg_head (v' := i64 ((j' - 1 : Nat) : Int)) (by unfold i64; congr 2; omega) ?_
  refine g_end ?_
  refine lp_next (i' + 1, j' - 1, swp ys i' j') hsw (σ := [some 0]) (fz := []) (wk _ [] _ _ (vals := (by (repeat' (first | exact VSubs.nil | apply VSubs.cons | exact VSub.one (VSub1.junk _) | exact VSub.nlv rfl | exact VSub.one (VSub1.vec rfl rfl))))) (blks := (.cons (bs_vec rfl (fun q hq => row_set2 rfl rfl (by omega)) (h := rfl) (hb := rfl)) .nil))) (by dsimp only; omega)
 rintro T' hp' ⟨i, j, ys, x11, x12, x13, rfl, rfl, hP, hij⟩
 have hyl : ys.length = n := hP.sw.len.trans hx
 have hi1 := hP.i1
 have hi2 := hP.ij
 have hj1 := hP.jb
 obtain ⟨w1, w2, w3, w4, w5⟩ := post hP hij
 refine d_run ?_
 refine p_weak [some 0] [] (wk _ [] ([.vec 1 0 n, i64 (a : Nat), i64 (b : Nat), .junk, .junk, .junk, .junk, i64 (j : Nat), .junk, .junk, .junk, .junk, .junk, .junk]) [.vec 1 n (rowI .i64 (swp ys j a)) full] (vals := (by (repeat' (first | exact VSubs.nil | apply VSubs.cons | exact VSub.one (VSub1.junk _) | exact VSub.nlv rfl | exact VSub.one (VSub1.vec rfl rfl))))) (blks := (.cons (bs_vec rfl (fun q hq => row_set2 rfl rfl (by omega)) (h := rfl) (hb := rfl)) .nil))) ?_
 refine s_run ?_
 refine p_ret ?_
 exact fin (R := swQ n full a b xs fun v ys => ∃ (m : Nat) (t : Bool), v = .tup [i64 (m : Nat), .s (.bool t)] ∧ a ≤ m ∧ m < b ∧ (∀ k, a ≤ k → k < m → ys.getD k 0 ≤ ys.getD m 0) ∧ ∀ k, m < k → k < b → ys.getD m 0 ≤ ys.getD k 0) (res := [.tmp 4, .tmp 5]) ⟨swp ys j a, rfl, w1, j, false, rfl, w2, w3, w4, w5⟩
theorem parteq_ok (hx : xs.length = n) (hn : n < 1000000) {a b p : Nat} (hb : b ≤ n) (hap : a ≤ p) (hpb : p < b) : PCall E [0] 80 [.vec 1 0 n, i64 (a : Nat), i64 (b : Nat), i64 (p : Nat)] (dH xs n full) (swQ n full a b xs fun v ys => ∃ m : Nat, v = i64 (m : Nat) ∧ a < m ∧ m ≤ b ∧ (∀ k, a ≤ k → k < m → ys.getD k 0 ≤ xs.getD p 0) ∧ ∀ k, m ≤ k → k < b → xs.getD p 0 < ys.getD k 0) := by
 refine p_fn ?_
 show PTri E false [0] _ [.vec 1 0 n, i64 (a : Nat), i64 (b : Nat), i64 (p : Nat), .junk, .junk, .junk, .junk, .junk, .junk] _ _
 unfold dH
 refine s_run ?_
 refine d_run ?_
 refine s_reg (g_run 1 ?_)
 refine prg_head (v' := i64 (a + 1 : Nat)) rfl ?_
 refine g_run 1 ?_
 refine prg_head (v' := i64 ((b - 1 : Nat) : Int)) (by unfold i64; congr 2; omega) ?_
 refine g_end ?_
 have hpv : (swp xs a p).getD a 0 = xs.getD p 0 := by
  rw [swp_at (by omega) (by omega)]
  by_cases e : a = p
  ·rw [if_pos e, e]
  ·rw [if_neg e, if_pos rfl]
 obtain ⟨pv, hpv2⟩ : ∃ pv, pv = xs.getD p 0 := ⟨_, rfl⟩
 rw [← hpv2] at hpv
 have hsl : (swp xs a p).length = n := swp_len.trans hx
 have h0 : Prt (· ≤ pv) (pv < ·) a b (a + 1) (b - 1) pv xs (swp xs a p) := ⟨.one ⟨Nat.le_refl _, by omega⟩ ⟨hap, hpb⟩, hpv, Nat.le_refl _, by omega, by omega, fun k q1 q2 => by omega, fun k q1 q2 => by omega⟩
 have hd : ∀ z : Int, z ≤ pv → pv < z → False := fun z h1 h2 => by omega
 refine s_cut (fun T' hp' => ∃ (i j : Nat) (ys : List Int) (x7 x8 x9 : PV), T' = [.vec 1 0 n, i64 (a : Nat), i64 (b : Nat), .junk, i64 0, i64 (i : Nat), i64 (j : Nat), x7, x8, x9] ∧ hp' = [.vec 1 n (rowI .i64 ys) full] ∧ Prt (· ≤ pv) (pv < ·) a b i j pv xs ys ∧ ¬ i ≤ j) ?_ ?_
 ·refine e_loop (ι := Nat × Nat × List Int) (fun s => Prt (· ≤ pv) (pv < ·) a b s.1 s.2.1 pv xs s.2.2) (fun s => b + s.2.1 + 2 - s.1) (fun s => [.vec 1 0 n, i64 (a : Nat), i64 (b : Nat), .junk, i64 0, i64 (s.1 : Nat), i64 (s.2.1 : Nat), .junk, .junk, .junk]) (fun s => [.vec 1 n (rowI .i64 s.2.2) full]) (a + 1, b - 1, swp xs a p) h0 (σ := [some 0]) (fz := []) (wk _ [] _ _ (vals := (by (repeat' (first | exact VSubs.nil | apply VSubs.cons | exact VSub.one (VSub1.junk _) | exact VSub.nlv rfl | exact VSub.one (VSub1.vec rfl rfl))))) (blks := (.cons (bs_vec rfl (fun q hq => row_set2 rfl rfl (by omega)) (h := rfl) (hb := rfl)) .nil))) ?_
  clear h0
  rintro ⟨i, j, ys⟩ h0
  dsimp only at h0 ⊢
  have hsl : ys.length = n := h0.sw.len.trans hx
  have hi1 := h0.i1
  have hj1 := h0.jb
  refine p_block ?_
  refine s_cut (fun T' hp' => ∃ (m : Nat) (x7 : PV), T' = [.vec 1 0 n, i64 (a : Nat), i64 (b : Nat), .junk, i64 0, i64 (m : Nat), i64 (j : Nat), x7, .junk, .junk] ∧ hp' = [.vec 1 n (rowI .i64 ys) full] ∧ Prt (· ≤ pv) (pv < ·) a b m j pv xs ys ∧ i ≤ m ∧ (m ≤ j → ¬ (¬ ys.getD a 0 < ys.getD m 0))) ?_ ?_
  ·refine e_loop (ι := Nat) (fun m => Prt (· ≤ pv) (pv < ·) a b m j pv xs ys ∧ i ≤ m) (fun m => b + 1 - m) (fun m => [.vec 1 0 n, i64 (a : Nat), i64 (b : Nat), .junk, i64 0, i64 (m : Nat), i64 (j : Nat), .junk, .junk, .junk]) (fun _ => [.vec 1 n (rowI .i64 ys) full]) i ⟨h0, Nat.le_refl _⟩ (σ := [some 0]) (fz := []) (wk _ [] _ _ (vals := (by (repeat' (first | exact VSubs.nil | apply VSubs.cons | exact VSub.one (VSub1.junk _) | exact VSub.nlv rfl | exact VSub.one (VSub1.vec rfl rfl))))) (blks := .cons bs_same .nil)) ?_
   rintro m ⟨hm, hbd⟩
   have q1 := hm.i1
   have q2 := hm.jb
   have q3 := hm.ij
   refine s_ass (s_drw (g_run 1 ?_))
   refine prg_split (fun c1 => ?_) (fun c1 => ?_)
   ·simp only [decide_eq_true_eq] at c1
    refine g_run 8 ?_
    refine g_call (less_ok _ _) ?_
    rintro v rfl
    refine ⟨rfl, ?_⟩
    refine g_end ?_
    refine s_cond (fun c2 => ?_) (fun c2 => ?_)
    ·have c3 : ¬ ys.getD a 0 < ys.getD m 0 := by simpa using c2
     refine s_skip (p_block ?_)
     refine e_run ?_
     refine lp_next (m + 1) ⟨hm.up (by omega) (by rw [hm.pv] at c3; exact Int.not_lt.1 c3), by omega⟩ (σ := [some 0]) (fz := []) (wk _ [] _ _ (vals := (by (repeat' (first | exact VSubs.nil | apply VSubs.cons | exact VSub.one (VSub1.junk _) | exact VSub.nlv rfl | exact VSub.one (VSub1.vec rfl rfl))))) (blks := .cons bs_same .nil))
    ·have c3 : ¬ (¬ ys.getD a 0 < ys.getD m 0) := by simpa using c2
     refine s_exit ?_
     exact ⟨rfl, m, _, rfl, rfl, hm, hbd, fun _ => c3⟩
   ·simp only [decide_eq_false_iff_not] at c1
    refine g_end ?_
    refine s_f ?_
    refine s_exit ?_
    exact ⟨rfl, m, _, rfl, rfl, hm, hbd, fun q => by omega⟩
  rintro T' hp' ⟨i', x7, rfl, rfl, hu, lu, eu⟩
  have hmv := hu.ij
  have hi2 := hu.i1
  refine s_cut (fun T' hp' => ∃ (m : Nat) (x7 : PV) (x8 : PV), T' = [.vec 1 0 n, i64 (a : Nat), i64 (b : Nat), .junk, i64 0, i64 (i' : Nat), i64 (m : Nat), x7, x8, .junk] ∧ hp' = [.vec 1 n (rowI .i64 ys) full] ∧ Prt (· ≤ pv) (pv < ·) a b i' m pv xs ys ∧ m ≤ j ∧ (i' ≤ m → ¬ (ys.getD a 0 < ys.getD m 0))) ?_ ?_
  ·refine e_loop (ι := Nat) (fun m => Prt (· ≤ pv) (pv < ·) a b i' m pv xs ys ∧ m ≤ j) (fun m => m) (fun m => [.vec 1 0 n, i64 (a : Nat), i64 (b : Nat), .junk, i64 0, i64 (i' : Nat), i64 (m : Nat), .junk, .junk, .junk]) (fun _ => [.vec 1 n (rowI .i64 ys) full]) j ⟨hu, Nat.le_refl _⟩ (σ := [some 0]) (fz := []) (wk _ [] _ _ (vals := (by (repeat' (first | exact VSubs.nil | apply VSubs.cons | exact VSub.one (VSub1.junk _) | exact VSub.nlv rfl | exact VSub.one (VSub1.vec rfl rfl))))) (blks := .cons bs_same .nil)) ?_
   rintro m ⟨hm, hbd⟩
   have q1 := hm.i1
   have q2 := hm.jb
   have q3 := hm.ij
   refine s_ass (s_drw (g_run 1 ?_))
   refine prg_split (fun c1 => ?_) (fun c1 => ?_)
   ·simp only [decide_eq_true_eq] at c1
    refine g_run 8 ?_
    refine g_call (less_ok _ _) ?_
    rintro v rfl
    refine ⟨rfl, ?_⟩
    refine g_end ?_
    refine s_cond (fun c2 => ?_) (fun c2 => ?_)
    ·have c3 : ys.getD a 0 < ys.getD m 0 := by simpa using c2
     refine s_skip (p_block ?_)
     refine e_reg (g_run 1 ?_)
     refine prg_head (v' := i64 ((m - 1 : Nat) : Int)) (by unfold i64; congr 2; omega) ?_
     refine g_end ?_
     refine lp_next (m - 1) ⟨hm.down (by omega) (by rw [hm.pv] at c3; exact c3), by omega⟩ (σ := [some 0]) (fz := []) (wk _ [] _ _ (vals := (by (repeat' (first | exact VSubs.nil | apply VSubs.cons | exact VSub.one (VSub1.junk _) | exact VSub.nlv rfl | exact VSub.one (VSub1.vec rfl rfl))))) (blks := .cons bs_same .nil))
    ·have c3 : ¬ (ys.getD a 0 < ys.getD m 0) := by simpa using c2
     refine s_exit ?_
     exact ⟨rfl, m, _, _, rfl, rfl, hm, hbd, fun _ => c3⟩
   ·simp only [decide_eq_false_iff_not] at c1
    refine g_end ?_
    refine s_f ?_
    refine s_exit ?_
    exact ⟨rfl, m, _, _, rfl, rfl, hm, hbd, fun q => by omega⟩
  rintro T' hp' ⟨j', x7, x8, rfl, rfl, hw, lw, ew⟩
  have hj2 := hw.jb
  have hij2 := hw.ij
  refine s_ass (s_run ?_)
  refine s_cond (fun c1 => ?_) (fun c1 => ?_)
  ·simp only [gt_iff_lt, decide_eq_true_eq] at c1
   refine s_exit ?_
   exact ⟨rfl, i', j', ys, _, _, _, rfl, rfl, hw, by omega⟩
  simp only [gt_iff_lt, decide_eq_false_iff_not] at c1
  have hlt : i' ≤ j' := by omega
  have hsw := hw.swap (by omega) hlt (by have := eu (by omega); rw [hw.pv] at this; exact Decidable.byContradiction this) (by have := ew (by omega); rw [hw.pv] at this; exact Int.not_lt.1 this) hd
  refine s_skip ?_
  refine d_run ?_
  refine s_run ?_
  refine e_reg (g_run 1 ?_)
  refine prg_head (v' := i64 ((j' - 1 : Nat) : Int)) (by unfold i64; congr 2; omega) ?_
  refine g_end ?_
  refine lp_next (i' + 1, j' - 1, swp ys i' j') hsw (σ := [some 0]) (fz := []) (wk _ [] _ _ (vals := (by (repeat' (first | exact VSubs.nil | apply VSubs.cons | exact VSub.one (VSub1.junk _) | exact VSub.nlv rfl | exact VSub.one (VSub1.vec rfl rfl))))) (blks := (.cons (bs_vec rfl (fun q hq => row_set2 rfl rfl (by omega)) (h := rfl) (hb := rfl)) .nil))) (by dsimp only; omega)
 rintro T' hp' ⟨i, j, ys, x7, x8, x9, rfl, rfl, hP, hij⟩
 have hi1 := hP.i1
 have hi2 := hP.ij
 have hj1 := hP.jb
 subst hpv2
 refine s_run ?_
 refine p_ret ?_
 refine fin ⟨ys, rfl, hP.sw, i, rfl, by omega, by omega, fun k q1 q2 => ?_, fun k q1 q2 => hP.hi k (by omega) q2⟩
 by_cases e : k = a
 ·rw [e, hP.pv]; exact Int.le_refl _
 ·exact hP.lo k (by omega) q2
end
end Go.Proofs.Ytggaimcopbjdiaa.Graph
namespace Go.Proofs.Ytggaimcopbjdiaa.Graph
open Go.Proofs.Ytggaimcopbjdiaa.AM Go.Proofs.Ytggaimcopbjdiaa.Post
section
variable {n : Nat} {xs : List Int} {full : Bool}
theorem partial_ok (hx : xs.length = n) (hn : n < 1000000) {a b : Nat} (hb : b ≤ n) (hab : a < b) (h50 : b < a + 50) : PCall E [0] 78 [.vec 1 0 n, i64 (a : Nat), i64 (b : Nat)] (dH xs n full) (fun v hp => hp = dH xs n full ∧ ∃ t : Bool, v = .s (.bool t) ∧ (t = true → Srt a b xs)) := by
 refine p_fn ?_
 show PTri E false [0] _ [.vec 1 0 n, i64 (a : Nat), i64 (b : Nat), .junk, .junk, .junk, .junk, .junk, .junk, .junk, .junk, .junk, .junk, .junk, .junk, .junk, .junk, .junk] _ _
 unfold dH
 refine s_run ?_
 refine s_reg (g_run 1 ?_)
 refine prg_head (v' := i64 (a + 1 : Nat)) rfl ?_
 refine g_end ?_
 refine s_ass (s_run ?_)
 refine s_loop (ι := Unit) (fun _ => True) (fun _ => 0) (fun _ => [.vec 1 0 n, i64 (a : Nat), i64 (b : Nat), .s (.bool false), i64 (a + 1 : Nat), i64 ((0 : Nat) : Int), .junk, .junk, .junk, .junk, .junk, .junk, .junk, .junk, .junk, .junk, .junk, .junk]) (fun _ => [.vec 1 n (rowI .i64 xs) full]) () trivial (σ := [some 0]) (fz := []) (wk _ [] _ _ (vals := (by (repeat' (first | exact VSubs.nil | apply VSubs.cons | exact VSub.one (VSub1.junk _) | exact VSub.nlv rfl | exact VSub.one (VSub1.vec rfl rfl) | exact VSub.one (VSub1.ptr rfl))))) (blks := .cons bs_same .nil)) ?_
 rintro ⟨⟩ _
 refine s_ass (s_run ?_)
 refine s_t (s_skip (s_block ?_))
 refine s_cut (fun T' hp' => ∃ (m : Nat) (x9 : PV), T' = [.vec 1 0 n, i64 (a : Nat), i64 (b : Nat), .s (.bool false), i64 (m : Nat), i64 ((0 : Nat) : Int), .junk, .junk, .junk, x9, .junk, .junk, .junk, .junk, .junk, .junk, .junk, .junk] ∧ hp' = [.vec 1 n (rowI .i64 xs) full] ∧ m ≤ b ∧ Srt a m xs) ?_ ?_
 ·refine e_loop (ι := Nat) (fun m => a + 1 ≤ m ∧ m ≤ b ∧ Srt a m xs) (fun m => b - m) (fun m => [.vec 1 0 n, i64 (a : Nat), i64 (b : Nat), .s (.bool false), i64 (m : Nat), i64 ((0 : Nat) : Int), .junk, .junk, .junk, .junk, .junk, .junk, .junk, .junk, .junk, .junk, .junk, .junk]) (fun _ => [.vec 1 n (rowI .i64 xs) full]) (a + 1) ⟨Nat.le_refl _, hab, Srt.short (Nat.le_refl _)⟩ (σ := [some 0]) (fz := []) (wk _ [] _ _ (vals := (by (repeat' (first | exact VSubs.nil | apply VSubs.cons | exact VSub.one (VSub1.junk _) | exact VSub.nlv rfl | exact VSub.one (VSub1.vec rfl rfl) | exact VSub.one (VSub1.ptr rfl))))) (blks := .cons bs_same .nil)) ?_
  rintro m ⟨m1, m2, m3⟩
  refine s_ass (s_drw (g_run 1 ?_))
  refine prg_split (fun c1 => ?_) (fun c1 => ?_)
  ·simp only [decide_eq_true_eq] at c1
   refine g_run 7 ?_
   refine prg_head (v' := i64 ((m - 1 : Nat) : Int)) (by unfold i64; congr 2; omega) ?_
   refine g_run 2 ?_
   refine g_call (less_ok _ _) ?_
   rintro v rfl
   refine ⟨rfl, ?_⟩
   refine g_end ?_
   refine s_cond (fun c2 => ?_) (fun c2 => ?_)
   ·have c3 : ¬ xs.getD m 0 < xs.getD (m - 1) 0 := by simpa using c2
    refine s_skip (p_block ?_)
    refine e_run ?_
    refine lp_next (m + 1) ⟨by omega, by omega, fun i j q1 q2 q3 => ?_⟩ (σ := [some 0]) (fz := []) (wk _ [] _ _ (vals := (by (repeat' (first | exact VSubs.nil | apply VSubs.cons | exact VSub.one (VSub1.junk _) | exact VSub.nlv rfl | exact VSub.one (VSub1.vec rfl rfl) | exact VSub.one (VSub1.ptr rfl))))) (blks := .cons bs_same .nil))
    by_cases e : j = m
    ·subst e
     by_cases w : i = j
     ·rw [w]; exact Int.le_refl _
     ·exact Int.le_trans (m3 i (j - 1) q1 (by omega) (by omega)) (Int.not_lt.1 c3)
    ·exact m3 i j q1 q2 (by omega)
   ·refine s_exit ?_
    exact ⟨rfl, m, _, rfl, rfl, m2, m3⟩
  ·refine g_end ?_
   refine s_f ?_
   refine s_exit ?_
   exact ⟨rfl, m, _, rfl, rfl, m2, m3⟩
 rintro T' hp' ⟨m, x9, rfl, rfl, m2, m3⟩
 refine s_ass (s_run ?_)
 refine s_cond (fun c1 => ?_) (fun c1 => ?_)
 ·have e : m = b := by
   have : (m : Int) = (b : Int) := by simpa using c1
   omega
  subst e
  refine s_ass (s_run ?_)
  refine s_ret ?_
  exact fin (R := fun v hp => hp = dH xs n full ∧ ∃ t : Bool, v = .s (.bool t) ∧ (t = true → Srt a m xs)) (res := [.tmp 3]) ⟨rfl, true, rfl, fun _ => m3⟩
 refine s_skip ?_
 refine s_ass (s_reg (g_run 2 ?_))
 refine prg_head (v' := .s (.bool true)) (by rw [decide_eq_true (by omega)]) ?_
 refine g_end ?_
 refine s_t ?_
 refine s_ass (s_run ?_)
 refine s_ret ?_
 exact fin (R := fun v hp => hp = dH xs n full ∧ ∃ t : Bool, v = .s (.bool t) ∧ (t = true → Srt a b xs)) (res := [.tmp 3]) ⟨rfl, false, rfl, fun h => nomatch h⟩
end
theorem next_rnd (r : Int) : PCall E [0] 87 [.ptr 0 0] [.cel [.s (.int .u64 r)]] (fun v hp => ∃ r' : Int, v = .s (.int .u64 r') ∧ hp = [.cel [.s (.int .u64 r')]]) := by
 refine p_fn ?_
 show PTri E false [0] _ [.ptr 0 0, .junk] _ _
 refine s_run ?_
 refine d_run ?_
 refine d_run ?_
 refine d_run ?_
 refine s_run ?_
 exact p_ret (fin ⟨_, rfl, rfl⟩)
theorem len64_ok {l : Nat} (h1 : 12 < l) (h2 : l < 50) : PFun E 83 [.s (.int .u64 (l : Nat))] (valQ fun v => ∃ k : Nat, v = i64 (k : Nat) ∧ (k = 4 ∨ k = 5 ∨ k = 6) ∧ 2 ^ k ≤ 2 * l) := by
 refine p_fun ?_
 show PTri E false [] _ [.s (.int .u64 (l : Nat)), .junk, .junk, .junk, .junk] _ _
 refine s_run ?_
 refine s_ass (s_reg (g_run 1 ?_))
 refine prg_head (v' := .s (.bool false)) (by rw [decide_eq_false (by omega)]) ?_
 refine g_end ?_
 refine s_f (s_skip ?_)
 refine s_ass (s_reg (g_run 1 ?_))
 refine prg_head (v' := .s (.bool false)) (by rw [decide_eq_false (by omega)]) ?_
 refine g_end ?_
 refine s_f (s_skip ?_)
 refine s_ass (s_reg (g_run 1 ?_))
 refine prg_head (v' := .s (.bool false)) (by rw [decide_eq_false (by omega)]) ?_
 refine g_end ?_
 refine s_f (s_skip ?_)
 have hc : l = 13 ∨ l = 14 ∨ l = 15 ∨ l = 16 ∨ l = 17 ∨ l = 18 ∨ l = 19 ∨ l = 20 ∨ l = 21 ∨ l = 22 ∨ l = 23 ∨ l = 24 ∨ l = 25 ∨ l = 26 ∨ l = 27 ∨ l = 28 ∨ l = 29 ∨ l = 30 ∨ l = 31 ∨ l = 32 ∨ l = 33 ∨ l = 34 ∨ l = 35 ∨ l = 36 ∨ l = 37 ∨ l = 38 ∨ l = 39 ∨ l = 40 ∨ l = 41 ∨ l = 42 ∨ l = 43 ∨ l = 44 ∨ l = 45 ∨ l = 46 ∨ l = 47 ∨ l = 48 ∨ l = 49 := by omega
 rcases hc with rfl | rfl | rfl | rfl | rfl | rfl | rfl | rfl | rfl | rfl | rfl | rfl | rfl | rfl | rfl | rfl | rfl | rfl | rfl | rfl | rfl | rfl | rfl | rfl | rfl | rfl | rfl | rfl | rfl | rfl | rfl | rfl | rfl | rfl | rfl | rfl | rfl
 all_goals first
  | (refine s_run (hq := by unfold in64; decide) ?_; exact p_ret (fin_r ⟨4, rfl, .inl rfl, by decide⟩))
  | (refine s_run (hq := by unfold in64; decide) ?_; exact p_ret (fin_r ⟨5, rfl, .inr (.inl rfl), by decide⟩))
  | (refine s_run (hq := by unfold in64; decide) ?_; exact p_ret (fin_r ⟨6, rfl, .inr (.inr rfl), by decide⟩))
theorem len_ok' {l : Nat} (h1 : 12 < l) (h2 : l < 50) : PFun E 68 [.s (.int .u64 (l : Nat))] (valQ fun v => ∃ k : Nat, v = i64 (k : Nat) ∧ (k = 4 ∨ k = 5 ∨ k = 6) ∧ 2 ^ k ≤ 2 * l) := by
 refine p_fun ?_
 show PTri E false [] _ [.s (.int .u64 (l : Nat)), .junk] _ _
 refine s_run ?_
 refine s_f (s_skip ?_)
 refine s_reg ?_
 refine g_call (len64_ok h1 h2) ?_
 rintro v ⟨k, rfl, hk, hk2⟩
 refine ⟨rfl, ?_⟩
 refine g_end ?_
 exact p_ret (fin_r ⟨k, rfl, hk, hk2⟩)
theorem npow_ok {l : Nat} (h1 : 12 < l) (h2 : l < 50) : PFun E 86 [i64 (l : Nat)] (valQ fun v => ∃ m : Nat, v = .s (.int .u64 (m : Nat)) ∧ 1 ≤ m ∧ m ≤ 2 * l) := by
 refine p_fun ?_
 show PTri E false [] _ [i64 (l : Nat), .junk] _ _
 refine s_run ?_
 refine s_reg (g_run 1 ?_)
 refine prg_head (v' := .s (.int .u64 (l : Nat))) (by congr 2; simp only [aw]; omega) ?_
 refine g_call (len_ok' h1 h2) ?_
 rintro v ⟨k, rfl, hk, hk2⟩
 refine ⟨rfl, ?_⟩
 rcases hk with rfl | rfl | rfl
 ·refine g_end ?_
  exact p_ret (fin_r ⟨16, rfl, by decide, hk2⟩)
 ·refine g_end ?_
  exact p_ret (fin_r ⟨32, rfl, by decide, hk2⟩)
 ·refine g_end ?_
  exact p_ret (fin_r ⟨64, rfl, by decide, hk2⟩)
theorem and_small (r : Int) {x : Nat} (hx : x < 100) : ∃ o : Nat, abits .and .u64 r (x : Int) = (o : Int) ∧ o ≤ x := by
 refine ⟨(BitVec.ofInt 64 r &&& BitVec.ofInt 64 (x : Int)).toNat, ?_, ?_⟩
 ·show (((BitVec.ofInt 64 r &&& BitVec.ofInt 64 (x : Int)).toNat : Int)) % 18446744073709551616 = _
  have := (BitVec.ofInt 64 r &&& BitVec.ofInt 64 (x : Int)).isLt
  omega
 ·rw [BitVec.toNat_and]
  refine Nat.le_trans Nat.and_le_right ?_
  rw [BitVec.ofInt_natCast, BitVec.toNat_ofNat]
  exact Nat.mod_le _ _
section
variable {n : Nat} {xs : List Int} {full : Bool}
noncomputable def bV (n a b l m : Nat) (x6 x7 : PV) : List PV := [.vec 1 0 n, i64 (a : Nat), i64 (b : Nat), i64 (l : Nat), .ptr 1 0, .s (.int .u64 (m : Nat)), x6, x7, .junk, .junk, .junk]
theorem breaks_ok (hx : xs.length = n) (hn : n < 1000000) {a b : Nat} (hb : b ≤ n) (h1 : a + 12 < b) (h2 : b < a + 50) : PCall E [0] 75 [.vec 1 0 n, i64 (a : Nat), i64 (b : Nat)] (dH xs n full) (swQ n full a b xs fun v ys => v = .tup []) := by
 refine p_fn ?_
 show PTri E false [0] _ [.vec 1 0 n, i64 (a : Nat), i64 (b : Nat), .junk, .junk, .junk, .junk, .junk, .junk, .junk, .junk] _ _
 obtain ⟨l, rfl⟩ : ∃ l, b = a + l := ⟨b - a, by omega⟩
 unfold dH
 refine s_reg (g_run 1 ?_)
 refine prg_head (v' := i64 (l : Nat)) (by unfold i64; congr 2; omega) ?_
 refine g_end ?_
 refine s_reg (g_run 1 ?_)
 refine prg_head (v' := .s (.bool true)) (by rw [decide_eq_true (by omega)]) ?_
 refine g_end ?_
 refine e_t ?_
 refine s_run ?_
 refine s_reg ?_
 refine g_call (npow_ok (l := l) (by omega) (by omega)) ?_
 rintro v ⟨m, rfl, hm1, hm2⟩
 refine ⟨rfl, ?_⟩
 refine g_end ?_
 refine s_reg (g_run 1 ?_)
 refine prg_head (quo_nat (k := 4) (by omega)) ?_
 refine g_run 1 ?_
 refine prg_head (v' := i64 (l / 4 * 2 : Nat)) rfl ?_
 refine g_run 1 ?_
 refine prg_head (v' := i64 (a + l / 4 * 2 : Nat)) rfl ?_
 refine g_run 1 ?_
 refine prg_head (v' := i64 ((a + l / 4 * 2 - 1 : Nat) : Int)) (by unfold i64; congr 2; omega) ?_
 refine g_end ?_
 refine e_loop (ι := Nat × List Int × Int) (fun s => a ≤ s.1 ∧ s.1 ≤ a + l / 4 * 2 + 2 ∧ Sw a (a + l) xs s.2.1) (fun s => a + l + 10 - s.1) (fun s => bV n a (a + l) l m (i64 (s.1 : Nat)) .junk) (fun s => [.vec 1 n (rowI .i64 s.2.1) full, .cel [.s (.int .u64 s.2.2)]]) (a + l / 4 * 2 - 1, xs, _) ⟨by omega, by omega, .refl⟩ (σ := [some 0, some 1]) (fz := []) (wk _ [] _ _ (vals := by (try dsimp only [bV]); exact (by (repeat' (first | exact VSubs.nil | apply VSubs.cons | exact VSub.one (VSub1.junk _) | exact VSub.nlv rfl | exact VSub.one (VSub1.vec rfl rfl) | exact VSub.one (VSub1.ptr rfl))))) (blks := .cons bs_same (.cons bs_cel .nil))) ?_
 rintro ⟨i, ys, r⟩ ⟨g1, g2, g3⟩
 dsimp only at g1 g2 g3 ⊢
 have hyl : ys.length = n := g3.len.trans hx
 unfold bV
 refine s_ass (s_reg (g_run 1 ?_))
 refine prg_head (quo_nat (k := 4) (by omega)) ?_
 refine g_run 1 ?_
 refine prg_head (v' := i64 (l / 4 * 2 : Nat)) rfl ?_
 refine g_run 1 ?_
 refine prg_head (v' := i64 (a + l / 4 * 2 : Nat)) rfl ?_
 refine g_run 1 ?_
 refine prg_head (v' := i64 (a + l / 4 * 2 + 1 : Nat)) rfl ?_
 refine g_end ?_
 refine s_cond (fun c1 => ?_) (fun c1 => ?_)
 ·simp only [decide_eq_true_eq] at c1
  have hil : i < a + l := by omega
  refine s_skip (s_block ?_)
  refine s_reg ?_
  refine g_scall [1] [] (args' := [.ptr 0 0]) (hpc := [.cel [.s (.int .u64 r)]]) (next_rnd r) (wk _ [] _ _ (vals := .cons (.one (.ptr rfl)) .nil) (blks := .cons bs_cel .nil)) ?_
  rintro v hpc' ⟨r', rfl, rfl⟩
  refine ⟨rfl, rfl, Nat.le_refl _, ?_⟩
  refine g_run 1 ?_
  refine prg_head (v' := .s (.int .u64 ((m - 1 : Nat) : Int))) (by congr 2; simp only [aw]; omega) ?_
  refine g_run 1 ?_
  obtain ⟨o, ho1, ho2⟩ := and_small r' (x := m - 1) (by omega)
  refine prg_head (v' := .s (.int .u64 (o : Nat))) (by rw [ho1]) ?_
  refine g_end ?_
  refine s_cut (fun T' hp' => ∃ (q : Nat) (x9 x10 : PV), q < l ∧ T' = [.vec 1 0 n, i64 (a : Nat), i64 (a + l : Nat), i64 (l : Nat), .ptr 1 0, .s (.int .u64 (m : Nat)), i64 (i : Nat), i64 (q : Nat), .junk, x9, x10] ∧ hp' = [.vec 1 n (rowI .i64 ys) full, .cel [.s (.int .u64 r')]]) ?_ ?_
  ·refine s_run ?_
   refine e_cond (fun c2 => ?_) (fun c2 => ?_)
   ·simp only [ge_iff_le, decide_eq_true_eq] at c2
    refine e_reg (g_run 1 ?_)
    refine prg_head (v' := i64 ((o - l : Nat) : Int)) (by unfold i64; congr 2; omega) ?_
    refine g_end ?_
    exact ⟨rfl, o - l, _, _, by omega, rfl, rfl⟩
   ·simp only [ge_iff_le, decide_eq_false_iff_not] at c2
    refine p_skip ?_
    exact ⟨rfl, o, _, _, by omega, rfl, rfl⟩
  rintro T' hp' ⟨q, x9, x10, hq, rfl, rfl⟩
  refine e_drw (g_run 1 ?_)
  refine prg_head (v' := i64 (a + q : Nat)) rfl ?_
  refine g_run 7 ?_
  refine prg_head (v' := i64 (a + q : Nat)) rfl ?_
  refine g_end ?_
  refine e_run ?_
  refine lp_next (i + 1, swp ys i (a + q), r') ⟨by omega, by omega, .step g3 ⟨g1, hil⟩ ⟨by omega, by omega⟩⟩ (σ := [some 0, some 1]) (fz := []) (wk _ [] _ _ (vals := by (try dsimp only [bV]); exact (by (repeat' (first | exact VSubs.nil | apply VSubs.cons | exact VSub.one (VSub1.junk _) | exact VSub.nlv rfl | exact VSub.one (VSub1.vec rfl rfl) | exact VSub.one (VSub1.ptr rfl))))) (blks := .cons (bs_vec rfl (fun k hk => row_set2 rfl rfl (by omega)) (h := rfl) (hb := rfl)) (.cons bs_cel .nil))) (by dsimp only; omega)
 ·simp only [decide_eq_false_iff_not] at c1
  refine p_weak [some 0] [] (wk _ [] ([.vec 1 0 n, .junk, .junk, .junk, .junk, .junk, .junk, .junk, .junk, .junk, .junk]) [.vec 1 n (rowI .i64 ys) full] (vals := (by (repeat' (first | exact VSubs.nil | apply VSubs.cons | exact VSub.one (VSub1.junk _) | exact VSub.nlv rfl | exact VSub.one (VSub1.vec rfl rfl) | exact VSub.one (VSub1.ptr rfl))))) (blks := .cons bs_same .nil)) ?_
  refine s_exit ?_
  exact fin (R := swQ n full a (a + l) xs fun v ys => v = .tup []) (res := []) ⟨ys, rfl, g3, rfl⟩
end
end Go.Proofs.Ytggaimcopbjdiaa.Graph
namespace Go.Proofs.Ytggaimcopbjdiaa.Graph
open Go.Proofs.Ytggaimcopbjdiaa.AM Go.Proofs.Ytggaimcopbjdiaa.Post
def cut2Q (P : List PV → PH → Prop) (R : AE → List PV → PH → Prop) : AE → List PV → PH → Prop := fun e T hp => match e with
 | .norm => P T hp
 | e => R e T hp
theorem s_cut2 {V : Type → Type} [Vec V] {E : Env V} {inR : Bool} {p : List Nat} {a b : ACode} {T : List PV} {hp : PH} {R : AE → List PV → PH → Prop} (P : List PV → PH → Prop) (h : PTri E inR p a T hp (cut2Q P R)) (hk : ∀ T' hp', P T' hp' → PTri E inR p b T' hp' R) : PTri E inR p (.seq a b) T hp R :=
 p_seq (h.mono fun e T' hp' hq => by
  cases e with
  | norm => exact hk T' hp' hq
  | _ => exact hq)
structure Pd (a b a' b' : Nat) (xs ys : List Int) : Prop where
 sw : Sw a b xs ys
 h1 : a ≤ a'
 h2 : a' ≤ b'
 h3 : b' ≤ b
 s1 : Srt a a' ys
 s2 : Srt b' b ys
 l1 : ∀ i j, a ≤ i → i < a' → a' ≤ j → j < b → ys.getD i 0 ≤ ys.getD j 0
 l2 : ∀ i j, a ≤ i → i < b' → b' ≤ j → j < b → ys.getD i 0 ≤ ys.getD j 0
 pre : a' = 0 ∨ ∀ k, a' ≤ k → k < b' → ys.getD (a' - 1) 0 ≤ ys.getD k 0
section
variable {a b a' b' m : Nat} {xs ys zs : List Int}
theorem Pd.fin (h : Pd a b a' b' xs ys) (hs : Srt a' b' ys) : Srt a b ys := by
 have h1 := h.h1
 have h2 := h.h2
 have h3 := h.h3
 refine Srt.join (m := b') (Srt.join (m := a') h.s1 hs fun i j q1 q2 q3 q4 => h.l1 i j q1 q2 q3 (by omega)) h.s2 h.l2
theorem Pd.step (h : Pd a b a' b' xs ys) (hb : b ≤ ys.length) (k : Sw a' b' ys zs) : Pd a b a' b' xs zs := by
 have h1 := h.h1
 have h2 := h.h2
 have h3 := h.h3
 have out : ∀ q, q < a' ∨ b' ≤ q → zs.getD q 0 = ys.getD q 0 := fun q hq => k.out (by omega) hq
 refine ⟨h.sw.trans (k.mono h1 h3), h1, h2, h3, h.s1.congr fun q _ q2 => out q (.inl q2), h.s2.congr fun q q1 _ => out q (.inr q1), fun i j q1 q2 q3 q4 => ?_, fun i j q1 q2 q3 q4 => ?_, ?_⟩
 ·rw [out i (.inl q2)]
  by_cases w : b' ≤ j
  ·rw [out j (.inr w)]; exact h.l1 i j q1 q2 q3 q4
  ·exact k.all (Q := fun z => ys.getD i 0 ≤ z) (by omega) (fun q w1 w2 => h.l1 i q q1 q2 w1 (by omega)) j q3 (by omega)
 ·rw [out j (.inr q3)]
  by_cases w : i < a'
  ·rw [out i (.inl w)]; exact h.l2 i j q1 q2 q3 q4
  ·exact k.all (Q := fun z => z ≤ ys.getD j 0) (by omega) (fun q w1 w2 => h.l2 q j (by omega) w2 q3 q4) i (by omega) q2
 ·rcases h.pre with w | w
  ·exact .inl w
  ·by_cases e : a' = 0
   ·exact .inl e
   ·refine .inr ?_
    rw [out (a' - 1) (.inl (by omega))]
    exact k.all (Q := fun z => ys.getD (a' - 1) 0 ≤ z) (by omega) w
theorem Pd.left (h : Pd a b a' b' xs ys) (hb : b ≤ ys.length) (hm1 : a' ≤ m) (hm2 : m < b') (hlo : ∀ k, a' ≤ k → k < m → ys.getD k 0 ≤ ys.getD m 0) (hhi : ∀ k, m < k → k < b' → ys.getD m 0 ≤ ys.getD k 0) (k : Sw a' m ys zs) (hs : Srt a' m zs) : Pd a b (m + 1) b' xs zs := by
 have g := h.step hb (k.mono (Nat.le_refl _) (by omega))
 have h1 := h.h1
 have h3 := h.h3
 have out : ∀ q, m ≤ q → zs.getD q 0 = ys.getD q 0 := fun q hq => k.out (by omega) (.inr hq)
 have lo : ∀ q, a' ≤ q → q < m → zs.getD q 0 ≤ ys.getD m 0 := k.all (Q := fun z => z ≤ ys.getD m 0) (by omega) hlo
 refine ⟨g.sw, by omega, by omega, h3, ?_, g.s2, fun i j q1 q2 q3 q4 => ?_, g.l2, .inr fun q q1 q2 => ?_⟩
 ·refine Srt.join (m := a') g.s1 ?_ fun i j q1 q2 q3 q4 => g.l1 i j q1 q2 q3 (by omega)
  refine Srt.join (m := m) hs (Srt.short (Nat.le_refl _)) fun i j q1 q2 q3 q4 => ?_
  have : j = m := by omega
  subst this
  rw [out j (Nat.le_refl _)]
  exact lo i q1 q2
 ·by_cases w : i < a'
  ·exact g.l1 i j q1 w (by omega) q4
  ·by_cases u : b' ≤ j
   ·exact g.l2 i j q1 (by omega) u q4
   ·rw [out j (by omega)]
    by_cases e : i = m
    ·subst e
     rw [out i (Nat.le_refl _)]
     exact hhi j (by omega) (by omega)
    ·exact Int.le_trans (lo i (by omega) (by omega)) (hhi j (by omega) (by omega))
 ·rw [show m + 1 - 1 = m by omega, out m (Nat.le_refl _), out q (by omega)]
  exact hhi q (by omega) q2
theorem Pd.right (h : Pd a b a' b' xs ys) (hb : b ≤ ys.length) (hm1 : a' ≤ m) (hm2 : m < b') (hlo : ∀ k, a' ≤ k → k < m → ys.getD k 0 ≤ ys.getD m 0) (hhi : ∀ k, m < k → k < b' → ys.getD m 0 ≤ ys.getD k 0) (k : Sw (m + 1) b' ys zs) (hs : Srt (m + 1) b' zs) : Pd a b a' m xs zs := by
 have g := h.step hb (k.mono (by omega) (Nat.le_refl _))
 have h1 := h.h1
 have h3 := h.h3
 have out : ∀ q, q ≤ m → zs.getD q 0 = ys.getD q 0 := fun q hq => k.out (by omega) (.inl (by omega))
 have hi : ∀ q, m + 1 ≤ q → q < b' → ys.getD m 0 ≤ zs.getD q 0 := k.all (Q := fun z => ys.getD m 0 ≤ z) (by omega) fun q q1 q2 => hhi q (by omega) q2
 refine ⟨g.sw, h1, hm1, by omega, g.s1, ?_, g.l1, fun i j q1 q2 q3 q4 => ?_, ?_⟩
 ·refine Srt.join (m := b') ?_ g.s2 fun i j q1 q2 q3 q4 => g.l2 i j (by omega) q2 q3 q4
  refine Srt.join (m := m + 1) (Srt.short (Nat.le_refl _)) hs fun i j q1 q2 q3 q4 => ?_
  have : i = m := by omega
  subst this
  rw [out i (Nat.le_refl _)]
  exact hi j q3 q4
 ·by_cases u : b' ≤ j
  ·exact g.l2 i j q1 (by omega) u q4
  ·by_cases w : i < a'
   ·exact g.l1 i j q1 w (by omega) q4
   ·rw [out i (by omega)]
    by_cases e : j = m
    ·subst e
     rw [out j (Nat.le_refl _)]
     exact hlo i (by omega) q2
    ·exact Int.le_trans (hlo i (by omega) q2) (hi j (by omega) (by omega))
 ·rcases g.pre with w | w
  ·exact .inl w
  ·exact .inr fun q q1 q2 => w q q1 (by omega)
theorem Pd.eq (h : Pd a b a' b' xs ys) (hb : b ≤ ys.length) {p : Nat} (hp1 : a' ≤ p) (hp2 : p < b') (ha : a' ≠ 0) (hn : ¬ ys.getD (a' - 1) 0 < ys.getD p 0) (hm1 : a' < m) (hm2 : m ≤ b') (k : Sw a' b' ys zs) (hlo : ∀ k, a' ≤ k → k < m → zs.getD k 0 ≤ ys.getD p 0) (hhi : ∀ k, m ≤ k → k < b' → ys.getD p 0 < zs.getD k 0) : Pd a b m b' xs zs := by
 have g := h.step hb k
 have h1 := h.h1
 have h3 := h.h3
 have low : ∀ q, a' ≤ q → q < b' → ys.getD p 0 ≤ zs.getD q 0 := by
  rcases h.pre with w | w
  ·exact absurd w ha
  ·exact k.all (Q := fun z => ys.getD p 0 ≤ z) (by omega) fun q q1 q2 => Int.le_trans (Int.not_lt.1 hn) (w q q1 q2)
 refine ⟨g.sw, by omega, hm2, h3, ?_, g.s2, fun i j q1 q2 q3 q4 => ?_, g.l2, .inr fun q q1 q2 => ?_⟩
 ·refine Srt.join (m := a') g.s1 (fun i j q1 q2 q3 => ?_) fun i j q1 q2 q3 q4 => g.l1 i j q1 q2 q3 (by omega)
  exact Int.le_trans (hlo i q1 (by omega)) (low j (by omega) (by omega))
 ·by_cases w : i < a'
  ·exact g.l1 i j q1 w (by omega) q4
  ·by_cases u : b' ≤ j
   ·exact g.l2 i j q1 (by omega) u q4
   ·exact Int.le_trans (hlo i (by omega) q2) (Int.le_of_lt (hhi j q3 (by omega)))
 ·exact Int.le_trans (hlo (m - 1) (by omega) (by omega)) (Int.le_of_lt (hhi q q1 q2))
end
theorem len64_small {l : Nat} (h1 : l < 13) : PFun E 83 [.s (.int .u64 (l : Nat))] (valQ fun v => ∃ k : Nat, v = i64 (k : Nat) ∧ k ≤ 6) := by
 refine p_fun ?_
 show PTri E false [] _ [.s (.int .u64 (l : Nat)), .junk, .junk, .junk, .junk] _ _
 refine s_run ?_
 refine s_ass (s_reg (g_run 1 ?_))
 refine prg_head (v' := .s (.bool false)) (by rw [decide_eq_false (by omega)]) ?_
 refine g_end ?_
 refine s_f (s_skip ?_)
 refine s_ass (s_reg (g_run 1 ?_))
 refine prg_head (v' := .s (.bool false)) (by rw [decide_eq_false (by omega)]) ?_
 refine g_end ?_
 refine s_f (s_skip ?_)
 refine s_ass (s_reg (g_run 1 ?_))
 refine prg_head (v' := .s (.bool false)) (by rw [decide_eq_false (by omega)]) ?_
 refine g_end ?_
 refine s_f (s_skip ?_)
 have hc : l = 0 ∨ l = 1 ∨ l = 2 ∨ l = 3 ∨ l = 4 ∨ l = 5 ∨ l = 6 ∨ l = 7 ∨ l = 8 ∨ l = 9 ∨ l = 10 ∨ l = 11 ∨ l = 12 := by omega
 rcases hc with rfl | rfl | rfl | rfl | rfl | rfl | rfl | rfl | rfl | rfl | rfl | rfl | rfl
 all_goals first
  | (refine s_run (hq := by unfold in64; decide) ?_; exact p_ret (fin_r ⟨0, rfl, by decide⟩))
  | (refine s_run (hq := by unfold in64; decide) ?_; exact p_ret (fin_r ⟨1, rfl, by decide⟩))
  | (refine s_run (hq := by unfold in64; decide) ?_; exact p_ret (fin_r ⟨2, rfl, by decide⟩))
  | (refine s_run (hq := by unfold in64; decide) ?_; exact p_ret (fin_r ⟨3, rfl, by decide⟩))
  | (refine s_run (hq := by unfold in64; decide) ?_; exact p_ret (fin_r ⟨4, rfl, by decide⟩))
theorem len_any {l : Nat} (h2 : l < 50) : PFun E 68 [.s (.int .u64 (l : Nat))] (valQ fun v => ∃ k : Nat, v = i64 (k : Nat) ∧ k ≤ 6) := by
 by_cases h : 12 < l
 ·exact PCall.mono (len_ok' h h2) fun v hp ⟨e, k, hv, hk, _⟩ => ⟨e, k, hv, by omega⟩
 ·refine p_fun ?_
  show PTri E false [] _ [.s (.int .u64 (l : Nat)), .junk] _ _
  refine s_run ?_
  refine s_f (s_skip ?_)
  refine s_reg ?_
  refine g_call (len64_small (l := l) (by omega)) ?_
  rintro v ⟨k, rfl, hk⟩
  refine ⟨rfl, ?_⟩
  refine g_end ?_
  exact p_ret (fin_r ⟨k, rfl, hk⟩)
section
variable {n : Nat} {full : Bool}
theorem pdq_ok (hn : n < 50) : ∀ (d : Nat) {xs : List Int} {a b lim : Nat}, b - a < d → xs.length = n → a ≤ b → b ≤ n → lim < 1000 → (a = 0 ∨ ∀ k, a ≤ k → k < b → xs.getD (a - 1) 0 ≤ xs.getD k 0) → PCall E [0] 67 [.vec 1 0 n, i64 (a : Nat), i64 (b : Nat), i64 (lim : Nat)] (dH xs n full) (swQ n full a b xs fun v ys => v = .tup [] ∧ Srt a b ys) := by
 intro d
 induction d with
 | zero => intro xs a b lim h; omega
 | succ d ih =>
 intro xs a b lim hd hx hab hb hlim hpre
 refine p_fn ?_
 show PTri E false [0] _ [.vec 1 0 n, i64 (a : Nat), i64 (b : Nat), i64 (lim : Nat), .junk, .junk, .junk, .junk, .junk, .junk, .junk, .junk, .junk, .junk, .junk, .junk, .junk, .junk, .junk, .junk, .junk, .junk, .junk] _ _
 unfold dH
 refine s_run ?_
 refine s_run ?_
 refine e_loop (ι := Nat × Nat × Nat × List Int × Bool × Bool) (fun s => Pd a b s.1 s.2.1 xs s.2.2.2.1 ∧ s.2.2.1 < 1000) (fun s => s.2.1 - s.1) (fun s => [.vec 1 0 n, i64 (s.1 : Nat), i64 (s.2.1 : Nat), i64 (s.2.2.1 : Nat), .s (.bool s.2.2.2.2.1), .s (.bool s.2.2.2.2.2), .junk, .junk, .junk, .junk, .junk, .junk, .junk, .junk, .junk, .junk, .junk, .junk, .junk, .junk, .junk, .junk, .junk]) (fun s => [.vec 1 n (rowI .i64 s.2.2.2.1) full]) (a, b, lim, xs, true, true) ⟨⟨.refl, Nat.le_refl _, hab, Nat.le_refl _, Srt.short (Nat.le_succ _), Srt.short (Nat.le_succ _), fun i j q1 q2 => absurd q2 (Nat.not_lt.2 q1), fun i j q1 q2 q3 q4 => absurd q4 (Nat.not_lt.2 q3), hpre⟩, hlim⟩ (σ := [some 0]) (fz := []) (wk _ [] _ _ (vals := (by (repeat' (first | exact VSubs.nil | apply VSubs.cons | exact VSub.one (VSub1.junk _) | exact VSub.nlv rfl | exact VSub.one (VSub1.vec rfl rfl))))) (blks := .cons bs_same .nil)) ?_
 rintro ⟨a', b', lim, ys, w4, w5⟩ ⟨hP, hlim⟩
 dsimp only at hP hlim ⊢
 have h1 := hP.h1
 have h2 := hP.h2
 have h3 := hP.h3
 have hyl : ys.length = n := hP.sw.len.trans hx
 refine p_block ?_
 refine s_reg (g_run 1 ?_)
 refine prg_head (v' := i64 ((b' - a' : Nat) : Int)) (by unfold i64; congr 2; omega) ?_
 refine g_end ?_
 refine s_ass (s_run ?_)
 refine s_cond (fun c1 => ?_) (fun c1 => ?_)
 ·refine s_ass (s_reg ?_)
  refine g_scall [0] [] (args' := [.vec 1 0 n, i64 (a' : Nat), i64 (b' : Nat)]) (hpc := dH ys n full) (insertion_ok hyl (by omega) h2 (by omega)) (wk _ [] _ _ (vals := .cons (.one (.vec rfl rfl)) (.cons (.nlv rfl) (.cons (.nlv rfl) .nil))) (blks := .cons bs_same .nil)) ?_
  rintro v hpc' ⟨zs, rfl, g1, rfl, g2⟩
  refine ⟨rfl, rfl, Nat.le_refl _, ?_⟩
  refine g_end ?_
  refine s_ret ?_
  have := hP.step (by omega) g1
  exact fin (R := swQ n full a b xs fun v ys => v = .tup [] ∧ Srt a b ys) (res := []) ⟨zs, rfl, this.sw, rfl, this.fin g2⟩
 simp only [decide_eq_false_iff_not] at c1
 have hl12 : a' + 12 < b' := by omega
 refine s_skip ?_
 refine s_ass (s_run ?_)
 refine s_cond (fun c2 => ?_) (fun c2 => ?_)
 ·refine s_ass (s_reg ?_)
  refine g_scall [0] [] (args' := [.vec 1 0 n, i64 (a' : Nat), i64 (b' : Nat)]) (hpc := dH ys n full) (heap_ok hyl (by omega) (by omega) (by omega)) (wk _ [] _ _ (vals := .cons (.one (.vec rfl rfl)) (.cons (.nlv rfl) (.cons (.nlv rfl) .nil))) (blks := .cons bs_same .nil)) ?_
  rintro v hpc' ⟨zs, rfl, g1, rfl, g2⟩
  refine ⟨rfl, rfl, Nat.le_refl _, ?_⟩
  refine g_end ?_
  refine s_ret ?_
  have := hP.step (by omega) g1
  exact fin (R := swQ n full a b xs fun v ys => v = .tup [] ∧ Srt a b ys) (res := []) ⟨zs, rfl, this.sw, rfl, this.fin g2⟩
 have hl0 : lim ≠ 0 := fun e => by subst e; cases c2
 refine s_skip ?_
 refine s_cut (fun T' hp' => ∃ (lim : Nat) (ys : List Int) (x15 x16 x17 : PV), T' = [.vec 1 0 n, i64 (a' : Nat), i64 (b' : Nat), i64 (lim : Nat), .s (.bool w4), .s (.bool w5), i64 ((b' - a' : Nat) : Int), .junk, .junk, .junk, .junk, .junk, .junk, .junk, .junk, x15, x16, x17, .junk, .junk, .junk, .junk, .junk] ∧ hp' = [.vec 1 n (rowI .i64 ys) full] ∧ Pd a b a' b' xs ys ∧ lim < 1000) ?_ ?_
 ·refine s_run ?_
  refine e_cond (fun c3 => ?_) (fun c3 => ?_)
  ·refine s_reg ?_
   refine g_scall [0] [] (args' := [.vec 1 0 n, i64 (a' : Nat), i64 (b' : Nat)]) (hpc := dH ys n full) (breaks_ok hyl (by omega) (by omega) hl12 (by omega)) (wk _ [] _ _ (vals := .cons (.one (.vec rfl rfl)) (.cons (.nlv rfl) (.cons (.nlv rfl) .nil))) (blks := .cons bs_same .nil)) ?_
   rintro v hpc' ⟨zs, rfl, g1, rfl⟩
   refine ⟨rfl, rfl, Nat.le_refl _, ?_⟩
   refine g_end ?_
   refine e_reg (g_run 1 ?_)
   refine prg_head (v' := i64 ((lim - 1 : Nat) : Int)) (by unfold i64; congr 2; omega) ?_
   refine g_end ?_
   exact ⟨rfl, lim - 1, zs, _, _, _, rfl, rfl, hP.step (by omega) g1, by omega⟩
  ·refine p_skip ?_
   exact ⟨rfl, lim, ys, _, _, _, rfl, rfl, hP, hlim⟩
 clear hP hyl hlim hl0 c2
 rintro T' hp' ⟨lim, ys, x15, x16, x17, rfl, rfl, hP, hlim⟩
 have hyl : ys.length = n := hP.sw.len.trans hx
 refine s_reg ?_
 refine g_scall [0] [] (args' := [.vec 1 0 n, i64 (a' : Nat), i64 (b' : Nat)]) (hpc := [.vec 1 n (rowI .i64 ys) full]) (pivot_ok hyl (by omega) (by omega) hl12 (by omega)) (wk _ [] _ _ (vals := .cons (.one (.vec rfl rfl)) (.cons (.nlv rfl) (.cons (.nlv rfl) .nil))) (blks := .cons bs_same .nil)) ?_
 rintro v hpc' ⟨p, h, rfl, rfl, hp1, hp2, hh⟩
 refine ⟨rfl, rfl, Nat.le_refl _, ?_⟩
 refine g_end ?_
 refine s_ass (s_reg (g_run 1 ?_))
 refine prg_head (v' := .s (.bool false)) (by rcases hh with rfl | rfl <;> rfl) ?_
 refine g_end ?_
 refine s_f (s_skip ?_)
 -- is it in order already?
 refine s_cut2 (fun T' hp' => ∃ (x8 x15 x16 x17 x18 x19 x20 : PV), T' = [.vec 1 0 n, i64 (a' : Nat), i64 (b' : Nat), i64 (lim : Nat), .s (.bool w4), .s (.bool w5), i64 ((b' - a' : Nat) : Int), i64 (p : Nat), x8, .junk, .junk, .junk, .junk, .junk, .junk, x15, x16, x17, x18, x19, x20, .junk, .junk] ∧ hp' = [.vec 1 n (rowI .i64 ys) full]) ?_ ?_
 ·refine s_cut (fun T' hp' => ∃ (t : Bool) (x8 x15 x16 x17 x18 x20 : PV), T' = [.vec 1 0 n, i64 (a' : Nat), i64 (b' : Nat), i64 (lim : Nat), .s (.bool w4), .s (.bool w5), i64 ((b' - a' : Nat) : Int), i64 (p : Nat), x8, .junk, .junk, .junk, .junk, .junk, .junk, x15, x16, x17, x18, .s (.bool t), x20, .junk, .junk] ∧ hp' = [.vec 1 n (rowI .i64 ys) full]) ?_ ?_
  ·cases w4 <;> cases w5 <;> rcases hh with rfl | rfl <;> exact e_run ⟨rfl, _, _, _, _, _, _, _, rfl, rfl⟩
  rintro T' hp' ⟨t, x8, x15, x16, x17, x18, x20, rfl, rfl⟩
  refine e_cond (fun c3 => ?_) (fun c3 => ?_)
  ·refine s_reg ?_
   refine g_scall [0] [] (args' := [.vec 1 0 n, i64 (a' : Nat), i64 (b' : Nat)]) (hpc := dH ys n full) (partial_ok hyl (by omega) (by omega) (by omega) (by omega)) (wk _ [] _ _ (vals := .cons (.one (.vec rfl rfl)) (.cons (.nlv rfl) (.cons (.nlv rfl) .nil))) (blks := .cons bs_same .nil)) ?_
   rintro v hpc' ⟨rfl, u, rfl, hu⟩
   refine ⟨rfl, rfl, Nat.le_refl _, ?_⟩
   refine g_end ?_
   refine e_cond (fun c4 => ?_) (fun c4 => ?_)
   ·refine p_ret ?_
    exact fin (R := swQ n full a b xs fun v ys => v = .tup [] ∧ Srt a b ys) (res := []) ⟨ys, rfl, hP.sw, rfl, hP.fin (hu c4)⟩
   ·refine p_skip ?_
    exact ⟨_, _, _, _, _, _, _, rfl, rfl⟩
  ·refine p_skip ?_
   exact ⟨_, _, _, _, _, _, _, rfl, rfl⟩
 rintro T' hp' ⟨x8, x15, x16, x17, x18, x19, x20, rfl, rfl⟩
 -- equal ones ahead
 refine s_cut2 (fun T' hp' => ∃ (x8 x15 x16 x17 x18 x19 x20 x21 : PV), T' = [.vec 1 0 n, i64 (a' : Nat), i64 (b' : Nat), i64 (lim : Nat), .s (.bool w4), .s (.bool w5), i64 ((b' - a' : Nat) : Int), i64 (p : Nat), x8, .junk, .junk, .junk, .junk, .junk, .junk, x15, x16, x17, x18, x19, x20, x21, .junk] ∧ hp' = [.vec 1 n (rowI .i64 ys) full]) ?_ ?_
 ·refine s_drw (g_run 1 ?_)
  refine prg_split (fun c3 => ?_) (fun c3 => ?_)
  ·simp only [gt_iff_lt, decide_eq_true_eq] at c3
   refine g_run 3 ?_
   refine prg_head (v' := i64 ((a' - 1 : Nat) : Int)) (by unfold i64; congr 2; omega) ?_
   refine g_run 6 ?_
   refine g_call (less_ok _ _) ?_
   rintro v rfl
   refine ⟨rfl, ?_⟩
   refine g_end ?_
   refine e_cond (fun c4 => ?_) (fun c4 => ?_)
   ·have c5 : ¬ ys.getD (a' - 1) 0 < ys.getD p 0 := by simpa using c4
    refine s_reg ?_
    refine g_scall [0] [] (args' := [.vec 1 0 n, i64 (a' : Nat), i64 (b' : Nat), i64 (p : Nat)]) (hpc := dH ys n full) (parteq_ok hyl (by omega) (by omega) hp1 hp2) (wk _ [] _ _ (vals := .cons (.one (.vec rfl rfl)) (.cons (.nlv rfl) (.cons (.nlv rfl) (.cons (.nlv rfl) .nil)))) (blks := .cons bs_same .nil)) ?_
    rintro v hpc' ⟨zs, rfl, g1, m, rfl, g2, g3, g4, g5⟩
    refine ⟨rfl, rfl, Nat.le_refl _, ?_⟩
    refine g_end ?_
    refine s_run ?_
    refine p_exit ?_
    refine lp_next (m, b', lim, zs, w4, w5) ⟨hP.eq (by omega) hp1 hp2 (by omega) c5 g2 g3 g1 g4 g5, hlim⟩ (σ := [some 0]) (fz := []) (wk _ [] _ _ (vals := (by (repeat' (first | exact VSubs.nil | apply VSubs.cons | exact VSub.one (VSub1.junk _) | exact VSub.nlv rfl | exact VSub.one (VSub1.vec rfl rfl))))) (blks := .cons bs_same .nil)) (by dsimp only; omega)
   ·refine p_skip ?_
    exact ⟨_, _, _, _, _, _, _, _, rfl, rfl⟩
  ·refine g_end ?_
   refine e_f ?_
   refine p_skip ?_
   exact ⟨_, _, _, _, _, _, _, _, rfl, rfl⟩
 rintro T' hp' ⟨x8, x15, x16, x17, x18, x19, x20, x21, rfl, rfl⟩
 refine s_reg ?_
 refine g_scall [0] [] (args' := [.vec 1 0 n, i64 (a' : Nat), i64 (b' : Nat), i64 (p : Nat)]) (hpc := dH ys n full) (partition_ok hyl (by omega) (by omega) hp1 hp2) (wk _ [] _ _ (vals := .cons (.one (.vec rfl rfl)) (.cons (.nlv rfl) (.cons (.nlv rfl) (.cons (.nlv rfl) .nil)))) (blks := .cons bs_same .nil)) ?_
 rintro v hpc' ⟨zs, rfl, g1, m, t, rfl, g2, g3, g4, g5⟩
 have hQ := hP.step (by omega) g1
 have hzl : zs.length = n := hQ.sw.len.trans hx
 refine ⟨rfl, rfl, Nat.le_refl _, ?_⟩
 refine g_end ?_
 refine s_run ?_
 refine s_reg (g_run 1 ?_)
 refine prg_head (v' := i64 ((m - a' : Nat) : Int)) (by unfold i64; congr 2; omega) ?_
 refine g_run 1 ?_
 refine prg_head (v' := i64 ((b' - m : Nat) : Int)) (by unfold i64; congr 2; omega) ?_
 refine g_end ?_
 refine s_reg (g_run 1 ?_)
 refine prg_head (quo_nat (k := 8) (by omega)) ?_
 refine g_end ?_
 refine s_run ?_
 refine e_cond (fun c4 => ?_) (fun c4 => ?_)
 ·refine s_run ?_
  refine s_reg ?_
  refine g_scall [0] [] (args' := [.vec 1 0 n, i64 (a' : Nat), i64 (m : Nat), i64 (lim : Nat)]) (hpc := dH zs n full) (ih (by omega) hzl g2 (by omega) hlim (hQ.pre.imp id fun q k k1 k2 => q k k1 (by omega))) (wk _ [] _ _ (vals := .cons (.one (.vec rfl rfl)) (.cons (.nlv rfl) (.cons (.nlv rfl) (.cons (.nlv rfl) .nil)))) (blks := .cons bs_same .nil)) ?_
  rintro v hpc' ⟨us, rfl, u1, rfl, u2⟩
  refine ⟨rfl, rfl, Nat.le_refl _, ?_⟩
  refine g_end ?_
  refine e_run ?_
  refine lp_next (m + 1, b', lim, us, _, t) ⟨hQ.left (by omega) g2 g3 g4 g5 u1 u2, hlim⟩ (σ := [some 0]) (fz := []) (wk _ [] _ _ (vals := (by (repeat' (first | exact VSubs.nil | apply VSubs.cons | exact VSub.one (VSub1.junk _) | exact VSub.nlv rfl | exact VSub.one (VSub1.vec rfl rfl))))) (blks := .cons bs_same .nil)) (by dsimp only; omega)
 ·refine s_run ?_
  refine s_reg (g_run 1 ?_)
  refine prg_head (v' := i64 (m + 1 : Nat)) rfl ?_
  refine g_scall [0] [] (args' := [.vec 1 0 n, i64 (m + 1 : Nat), i64 (b' : Nat), i64 (lim : Nat)]) (hpc := dH zs n full) (ih (by omega) hzl (by omega) (by omega) hlim (.inr fun k k1 k2 => by rw [show m + 1 - 1 = m by omega]; exact g5 k (by omega) k2)) (wk _ [] _ _ (vals := .cons (.one (.vec rfl rfl)) (.cons (.nlv rfl) (.cons (.nlv rfl) (.cons (.nlv rfl) .nil)))) (blks := .cons bs_same .nil)) ?_
  rintro v hpc' ⟨us, rfl, u1, rfl, u2⟩
  refine ⟨rfl, rfl, Nat.le_refl _, ?_⟩
  refine g_end ?_
  refine e_run ?_
  refine lp_next (a', m, lim, us, _, t) ⟨hQ.right (by omega) g2 g3 g4 g5 u1 u2, hlim⟩ (σ := [some 0]) (fz := []) (wk _ [] _ _ (vals := (by (repeat' (first | exact VSubs.nil | apply VSubs.cons | exact VSub.one (VSub1.junk _) | exact VSub.nlv rfl | exact VSub.one (VSub1.vec rfl rfl))))) (blks := .cons bs_same .nil)) (by dsimp only; omega)
theorem sort_ok (hn : n < 50) {xs : List Int} (hx : xs.length = n) : PCall E [0] 62 [.vec 1 0 n] (dH xs n full) (swQ n full 0 n xs fun v ys => v = .tup [] ∧ Srt 0 n ys) := by
 refine p_fn ?_
 show PTri E false [0] _ [.vec 1 0 n, .junk] _ _
 unfold dH
 refine s_run ?_
 refine e_reg (g_run 1 ?_)
 refine prg_head (v' := .s (.int .u64 (n : Nat))) (by congr 2; simp only [aw]; omega) ?_
 refine g_call (len_any hn) ?_
 rintro v ⟨k, rfl, hk⟩
 refine ⟨rfl, ?_⟩
 refine g_scall [0] [] (args' := [.vec 1 0 n, i64 ((0 : Nat) : Int), i64 (n : Nat), i64 (k : Nat)]) (hpc := dH xs n full) (pdq_ok hn (n + 1) (by omega) hx (Nat.zero_le _) (Nat.le_refl _) (by omega) (.inl rfl)) (wk _ [] _ _ (vals := .cons (.one (.vec rfl rfl)) (.cons (.nlv rfl) (.cons (.nlv rfl) (.cons (.nlv rfl) .nil)))) (blks := .cons bs_same .nil)) ?_
 rintro v hpc' ⟨us, rfl, u1, rfl, u2⟩
 refine ⟨rfl, rfl, Nat.le_refl _, ?_⟩
 refine g_end ?_
 exact fin (R := swQ n full 0 n xs fun v ys => v = .tup [] ∧ Srt 0 n ys) (res := []) ⟨us, rfl, u1, rfl, u2⟩
end
end Go.Proofs.Ytggaimcopbjdiaa.Graph
