/- Functions of graphs: edges, and what leads to an address, as the document tells them. -/
import Derived.Test.YtdbehmepikhghaaGraphE
set_option linter.unusedVariables false
set_option linter.unusedSimpArgs false
set_option maxRecDepth 10000
namespace Go.Proofs.Ytdbehmepikhghaa.Graph
open Go.Proofs.Ytdbehmepikhghaa.AM
theorem mem_nextL {code : List (Int × Int)} {a : Nat} {op A b : Int} (hop : (code.getD a (0, 0)).1 = op) (hA : (code.getD a (0, 0)).2 = A) : b ∈ nextL code a ↔ (op = 43 ∧ 0 ≤ b ∧ b < code.length ∧ A = b) ∨ (op = 44 ∧ 0 ≤ b ∧ b < code.length ∧ (b = (a : Int) + 1 ∨ A = b)) ∨ (op = 46 ∧ b = code.length) ∨ (op ≠ 43 ∧ op ≠ 44 ∧ op ≠ 46 ∧ b < code.length ∧ b = (a : Int) + 1) := by
  simp only [nextL, hop, hA]
  by_cases h1 : op = 43
  · rw [if_pos h1]
    split
    · simp only [List.mem_singleton]; omega
    · simp only [List.not_mem_nil, false_iff]; omega
  rw [if_neg h1]
  by_cases h2 : op = 44
  · rw [if_pos h2]
    split
    · split
      · split
        · simp only [List.mem_cons, List.not_mem_nil, or_false]; omega
        · simp only [List.mem_cons, List.not_mem_nil, or_false]; omega
      · simp only [List.mem_singleton]; omega
    · split
      · simp only [List.mem_singleton]; omega
      · simp only [List.not_mem_nil, false_iff]; omega
  rw [if_neg h2]
  by_cases h3 : op = 46
  · rw [if_pos h3]; simp only [List.mem_singleton]; omega
  rw [if_neg h3]
  split
  · simp only [List.mem_singleton]; omega
  · simp only [List.not_mem_nil, false_iff]; omega
theorem next_range {code : List (Int × Int)} {a : Nat} (ha : a < code.length) {b : Int} (h : b ∈ nextL code a) : 0 ≤ b ∧ b ≤ code.length := by
  rw [mem_nextL rfl rfl] at h; omega
theorem edge_ok {f : Fn} (hf : Fit f.code) (a b : Int) (hb : in64 b) : PFun E 54 [encF f, i64 a, i64 b] (valQ (isV (.s (.bool (decide (b ∈ nextI f.code a)))))) := by
  have f1 := hf.len
  have out : ¬ (0 ≤ a ∧ a < f.code.length ∧ 0 ≤ b ∧ b ≤ f.code.length) → b ∉ nextI f.code a := by
    intro h hm
    unfold nextI at hm
    split at hm
    · next h2 =>
      have := next_range (a := a.toNat) (by omega) hm
      omega
    · cases hm
  refine p_fun ?_
  show PTri E false [] _ [encF f, i64 a, i64 b, .junk, .junk, .junk, .junk, .junk, .junk, .junk, .junk, .junk] _ _
  refine s_run ?_
  refine s_run ?_
  refine s_ass (s_reg (g_run 1 ?_))
  refine prg_split (fun h1 => ?_) (fun h1 => ?_)
  · simp only [decide_eq_true_eq] at h1
    rw [decide_eq_false (out (by omega))]
    refine g_end ?_
    refine s_t (s_ass (s_run ?_))
    exact s_ret fin_v
  simp only [decide_eq_false_iff_not] at h1
  refine g_run 3 ?_
  refine prg_split (fun h2 => ?_) (fun h2 => ?_)
  · simp only [ge_iff_le, decide_eq_true_eq] at h2
    rw [decide_eq_false (out (by omega))]
    refine g_end ?_
    refine s_t (s_ass (s_run ?_))
    exact s_ret fin_v
  simp only [ge_iff_le, decide_eq_false_iff_not] at h2
  refine g_run 3 ?_
  refine prg_split (fun h3 => ?_) (fun h3 => ?_)
  · simp only [decide_eq_true_eq] at h3
    rw [decide_eq_false (out (by omega))]
    refine g_end ?_
    refine s_t (s_ass (s_run ?_))
    exact s_ret fin_v
  simp only [decide_eq_false_iff_not] at h3
  refine g_run 4 ?_
  refine prg_split (fun h4 => ?_) (fun h4 => ?_)
  · simp only [gt_iff_lt, decide_eq_true_eq] at h4
    rw [decide_eq_false (out (by omega))]
    refine g_end ?_
    refine s_t (s_ass (s_run ?_))
    exact s_ret fin_v
  simp only [gt_iff_lt, decide_eq_false_iff_not] at h4
  refine g_end ?_
  refine s_f (s_skip ?_)
  obtain ⟨a, rfl⟩ : ∃ b : Nat, a = b := ⟨a.toNat, by omega⟩
  have ha : a < f.code.length := by omega
  rw [nextI_nat ha]
  obtain ⟨op, hop⟩ : ∃ op, (f.code.getD a (0, 0)).1 = op := ⟨_, rfl⟩
  obtain ⟨A, hA⟩ : ∃ A, (f.code.getD a (0, 0)).2 = A := ⟨_, rfl⟩
  have hm := mem_nextL (b := b) hop hA
  refine s_run ?_
  rw [hop, hA]
  refine s_ass (s_run ?_)
  have ans : ∀ {t : Bool}, (t = true ↔ b ∈ nextL f.code a) → decide (b ∈ nextL f.code a) = t := by
    intro t h
    cases t with
    | true => exact decide_eq_true (h.1 rfl)
    | false => exact decide_eq_false fun x => by have := h.2 x; cases this
  by_cases h43 : op = 43
  · subst h43
    refine s_block (s_run ?_)
    refine e_t ?_
    refine s_reg (g_run 1 ?_)
    refine prg_split (fun h5 => ?_) (fun h5 => ?_)
    · simp only [decide_eq_true_eq] at h5
      refine g_end ?_
      rw [ans (t := A == b) (by rw [hm, beq_iff_eq]; omega)]
      exact p_ret fin_v
    · simp only [decide_eq_false_iff_not] at h5
      refine g_end ?_
      rw [ans (t := false) (by rw [hm]; simp only [Bool.false_eq_true, false_iff]; omega)]
      exact p_ret fin_v
  have e43 : (op == 43) = false := by simpa using h43
  by_cases h44 : op = 44
  · subst h44
    refine s_block (s_run ?_)
    refine e_f ?_
    refine s_run ?_
    refine e_t ?_
    refine s_reg (g_run 1 ?_)
    refine prg_split (fun h5 => ?_) (fun h5 => ?_)
    · simp only [decide_eq_true_eq] at h5
      refine g_run 4 ?_
      refine prg_split (fun h6 => ?_) (fun h6 => ?_)
      · simp only [beq_iff_eq] at h6
        refine g_end ?_
        rw [ans (t := true) (by rw [hm]; exact ⟨fun _ => .inr (.inl ⟨rfl, by omega, by omega, .inl h6⟩), fun _ => rfl⟩)]
        exact p_ret fin_v
      · simp only [beq_eq_false_iff_ne, ne_eq] at h6
        refine g_end ?_
        rw [ans (t := A == b) (by rw [hm, beq_iff_eq]; omega)]
        exact p_ret fin_v
    · simp only [decide_eq_false_iff_not] at h5
      refine g_end ?_
      rw [ans (t := false) (by rw [hm]; simp only [Bool.false_eq_true, false_iff]; omega)]
      exact p_ret fin_v
  have e44 : (op == 44) = false := by simpa using h44
  by_cases h46 : op = 46
  · subst h46
    refine s_block (s_run ?_)
    refine e_f ?_
    refine s_run ?_
    refine e_f ?_
    refine s_run ?_
    refine e_t ?_
    refine s_run ?_
    rw [ans (t := b == (f.code.length : Int)) (by rw [hm, beq_iff_eq]; omega)]
    exact p_ret fin_v
  have e46 : (op == 46) = false := by simpa using h46
  refine s_block (s_run ?_)
  rw [e43]
  refine e_f ?_
  refine s_run ?_
  rw [e44]
  refine e_f ?_
  refine s_run ?_
  rw [e46]
  refine e_f ?_
  refine p_skip ?_
  refine s_reg (g_run 1 ?_)
  refine prg_split (fun h5 => ?_) (fun h5 => ?_)
  · simp only [decide_eq_true_eq] at h5
    refine g_end ?_
    rw [ans (t := b == (a : Int) + 1) (by rw [hm, beq_iff_eq]; omega)]
    exact p_ret fin_v
  · simp only [decide_eq_false_iff_not] at h5
    refine g_end ?_
    rw [ans (t := false) (by rw [hm]; simp only [Bool.false_eq_true, false_iff]; omega)]
    exact p_ret fin_v
/-- What leads to an address. -/
def aheadN (code : List (Int × Int)) (a : Int) (k : Nat) : List Int := ((List.range k).filter fun b => decide (a ∈ nextI code (b : Nat))).map fun b => ((b : Nat) : Int)
def aheadI (code : List (Int × Int)) (a : Int) : List Int := aheadN code a code.length
theorem aheadN_succ (code : List (Int × Int)) (a : Int) (k : Nat) : aheadN code a (k + 1) = if a ∈ nextI code (k : Nat) then aheadN code a k ++ [((k : Nat) : Int)] else aheadN code a k := by
  unfold aheadN
  rw [List.range_succ, List.filter_append]
  by_cases h : a ∈ nextI code (k : Nat)
  · rw [if_pos h]; simp [h]
  · rw [if_neg h]; simp [h]
theorem aheadN_len (code : List (Int × Int)) (a : Int) (k : Nat) : (aheadN code a k).length ≤ k := by
  unfold aheadN
  rw [List.length_map]
  exact Nat.le_trans (List.length_filter_le _ _) (by simp)
theorem rahead_ok {f : Fn} (hf : Fit f.code) (a : Int) (h64 : in64 a) : PFun E 19 [encF f, i64 a] (valQ (isV (encI (aheadI f.code a)))) := by
  have f1 := hf.len
  refine p_fun ?_
  show PTri E false [] _ [encF f, i64 a, .junk, .junk, .junk, .junk, .junk, .junk] _ _
  refine s_run ?_
  refine s_run ?_
  refine s_ass (s_run ?_)
  refine s_loop (fun k => k ≤ f.code.length + 1) (fun k => f.code.length + 1 - k) (fun k => [encF f, i64 a, .ptr 0 0, .s (.slice none 0 0), .vec 1 1 (aheadN f.code a k).length, .s (.int .i64 (k : Nat)), .junk, .junk]) (fun k => [.cel (cellsF f), .vec 1 (aheadN f.code a k).length (rowI .i64 (aheadN f.code a k)) true]) 0 (Nat.zero_le _) (wk [some 0, none] [] _ _ (blks := .cons bs_cel (.cons (.nil rfl) .nil))) ?_
  intro k hk
  refine s_ass (s_run ?_)
  refine s_cond (fun h => ?_) (fun h => ?_)
  · simp only [decide_eq_true_eq] at h
    have hl := aheadN_len f.code a k
    refine s_skip (s_block (s_reg (g_run 1 ?_)))
    refine g_call (edge_ok hf (k : Nat) a h64) ?_
    rintro v rfl
    refine ⟨rfl, ?_⟩
    refine g_end ?_
    refine e_cond (fun h2 => ?_) (fun h2 => ?_)
    · simp only [decide_eq_true_eq] at h2
      refine e_run ?_ (hq := by simp only [room, true_and, and_true]; omega)
      refine e_run ?_
      have e := aheadN_succ f.code a k
      rw [if_pos h2] at e
      have e2 : (aheadN f.code a (k + 1)).length = (aheadN f.code a k).length + 1 := by rw [e]; simp
      refine lp_next (k + 1) (by omega) (σ := [some 0, some 3]) (wk _ [] _ _ (vals := ?_) (blks := ?_))
      · exact .cons (.nlv rfl) (.cons (.nlv rfl) (.cons (.one (.ptr rfl)) (.cons (.nlv rfl) (.cons (.one (.vec rfl e2.symm)) (.cons (.nlv rfl) (.cons (.one (.junk _)) (.cons (.one (.junk _)) .nil)))))))
      · refine .cons bs_cel (.cons (bs_vec e2 fun i hi => ?_) .nil)
        rw [e]
        exact row1_push (en := i64) (d := 0) (x := ((k : Nat) : Int)) (xs := aheadN f.code a k) (by omega)
    · simp only [decide_eq_false_iff_not] at h2
      refine p_skip (e_run ?_)
      have e := aheadN_succ f.code a k
      rw [if_neg h2] at e
      refine lp_next (k + 1) (by omega) (σ := [some 0, some 1]) (wk _ [] _ _ (vals := ?_) (blks := ?_))
      · exact .cons (.nlv rfl) (.cons (.nlv rfl) (.cons (.one (.ptr rfl)) (.cons (.nlv rfl) (.cons (.one (.vec rfl (by rw [e]))) (.cons (.nlv rfl) (.cons (.one (.junk _)) (.cons (.one (.junk _)) .nil)))))))
      · refine .cons bs_cel (.cons (bs_vec (by rw [e]) fun i hi => by rw [e]) .nil)
  · simp only [decide_eq_false_iff_not] at h
    refine s_exit ?_
    refine s_run ?_
    refine p_ret ?_
    refine fin_z [1] rfl ?_
    rintro v rfl
    have hk' : k = f.code.length + 1 := by omega
    subst hk'
    have e := aheadN_succ f.code a f.code.length
    rw [if_neg (by rw [nextI_out (by omega)]; simp)] at e
    have e' : aheadI f.code a = aheadN f.code a (f.code.length + 1) := e.symm
    rw [e']
    exact .one (.vecf (by decide) rfl rfl (Nat.le_refl _) (Nat.le_refl _) fun i hi => rfl)
end Go.Proofs.Ytdbehmepikhghaa.Graph
