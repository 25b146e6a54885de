/- Functions of graphs: edges from both ends, as the document tells them. Functions of graphs: edges, and what leads to an address, as the document tells them. Ways: what is reached, breadth first and depth first. Ways, depth first: what is reached; a way out. What is reached. PUT TOGETHER by merge.py. -/
import Derived.Test.YtollibkfagjnaaaFrGrD
set_option linter.unusedVariables false
set_option linter.unusedSimpArgs false
set_option maxRecDepth 10000
namespace Go.Proofs.Ytollibkfagjnaaa.Shape.Gr
open Go.Proofs.Ytollibkfagjnaaa.AM
end Go.Proofs.Ytollibkfagjnaaa.Shape.Gr

namespace Go.Proofs.Ytollibkfagjnaaa.Shape.Gr
open Go.Proofs.Ytollibkfagjnaaa.AM
theorem mem_nextL {code : List (Int × Int)} {a : Nat} {op A b : Int} (hop : (code.getD a (0, 0)).1 = op) (hA : (code.getD a (0, 0)).2 = A) : b ∈ nextL code a ↔ (op = 43 ∧ 0 ≤ b ∧ b < code.length ∧ A = b) ∨ (op = 44 ∧ 0 ≤ b ∧ b < code.length ∧ (b = (a : Int) + 1 ∨ A = b)) ∨ (op = 46 ∧ b = code.length) ∨ (op ≠ 43 ∧ op ≠ 44 ∧ op ≠ 46 ∧ b < code.length ∧ b = (a : Int) + 1) := by
  simp only [nextL, hop, hA]
  by_cases h1 : op = 43
  · rw [if_pos h1]
    split
    · simp only [List.mem_singleton]; omega
    · simp only [List.not_mem_nil, false_iff]; omega
  rw [if_neg h1]
  by_cases h2 : op = 44
  · rw [if_pos h2]
    split
    · split
      · split
        · simp only [List.mem_cons, List.not_mem_nil, or_false]; omega
        · simp only [List.mem_cons, List.not_mem_nil, or_false]; omega
      · simp only [List.mem_singleton]; omega
    · split
      · simp only [List.mem_singleton]; omega
      · simp only [List.not_mem_nil, false_iff]; omega
  rw [if_neg h2]
  by_cases h3 : op = 46
  · rw [if_pos h3]; simp only [List.mem_singleton]; omega
  rw [if_neg h3]
  split
  · simp only [List.mem_singleton]; omega
  · simp only [List.not_mem_nil, false_iff]; omega
theorem next_range {code : List (Int × Int)} {a : Nat} (ha : a < code.length) {b : Int} (h : b ∈ nextL code a) : 0 ≤ b ∧ b ≤ code.length := by
  rw [mem_nextL rfl rfl] at h; omega
end Go.Proofs.Ytollibkfagjnaaa.Shape.Gr

namespace Go.Proofs.Ytollibkfagjnaaa.Shape.Gr
open Go.Proofs.Ytollibkfagjnaaa.AM
/-- To which nodes there are ways. -/
inductive WayG (nx : Nat → List Int) (s : Nat) : Nat → Prop
  | refl : WayG nx s s
  | step {b c : Nat} (h : WayG nx s b) (hc : (c : Int) ∈ nx b) : WayG nx s c
noncomputable def reachG (n : Nat) (nx : Nat → List Int) (s : Int) : List Bool := (List.range n).map fun (b : Nat) => @decide (0 ≤ s ∧ s < n ∧ WayG nx s.toNat b) (Classical.propDecidable _)
theorem reachG_len (n : Nat) (nx : Nat → List Int) (s : Int) : (reachG n nx s).length = n := by simp [reachG]
theorem reachG_at {n : Nat} {nx : Nat → List Int} {s : Int} {b : Nat} (hb : b < n) : (reachG n nx s).getD b false = true ↔ 0 ≤ s ∧ s < n ∧ WayG nx s.toNat b := by
  unfold reachG
  rw [List.getD_eq_getElem?_getD, List.getElem?_map, List.getElem?_range hb]
  simp only [Option.map_some, Option.getD_some]
  exact @decide_eq_true_iff _ (Classical.propDecidable _)
theorem bool_ext {xs ys : List Bool} (hl : xs.length = ys.length) (h : ∀ b, b < xs.length → (xs.getD b false = true ↔ ys.getD b false = true)) : xs = ys := by
  refine List.ext_getElem hl fun i h1 h2 => ?_
  have := h i h1
  simp only [List.getD_eq_getElem?_getD, List.getElem?_eq_getElem h1, List.getElem?_eq_getElem h2, Option.getD_some] at this
  cases hx : xs[i] <;> cases hy : ys[i] <;> simp_all
theorem getD_set {seen : List Bool} {c b : Nat} (hc : c < seen.length) : (seen.set c true).getD b false = if b = c then true else seen.getD b false := by
  by_cases h : b = c
  · subst h; rw [if_pos rfl]; simp [List.getD_eq_getElem?_getD, hc]
  · rw [if_neg h]; simp only [List.getD_eq_getElem?_getD, List.getElem?_set_ne (Ne.symm h)]
theorem count_set : ∀ {seen : List Bool} {c : Nat}, c < seen.length → seen.getD c false = false → (seen.set c true).count false + 1 = seen.count false
  | [], c, h, _ => by simp at h
  | x :: seen, 0, h, h2 => by
    have : x = false := by simpa [List.getD_eq_getElem?_getD] using h2
    subst this; simp
  | x :: seen, c + 1, h, h2 => by
    have ih := count_set (seen := seen) (c := c) (by simpa using h) (by simpa [List.getD_eq_getElem?_getD] using h2)
    simp only [List.set_cons_succ, List.count_cons]
    omega
theorem rep_false (n b : Nat) : (List.replicate n false).getD b false = false := by
  simp only [List.getD_eq_getElem?_getD, List.getElem?_replicate]; split <;> rfl
theorem getD_at {α : Type} {l : List α} {i : Nat} {d : α} (h : i < l.length) : l.getD i d = l[i] := by simp [List.getD_eq_getElem?_getD, h]
/-- In the midst of a search. -/
structure Srch (nx : Nat → List Int) (n s : Nat) (seen : List Bool) (todo : List Int) : Prop where
  len : seen.length = n
  way : ∀ b, b < n → seen.getD b false = true → WayG nx s b
  todo : ∀ x, x ∈ todo → ∃ b : Nat, x = b ∧ b < n ∧ seen.getD b false = true
  start : seen.getD s false = true
  start' : s < n
theorem Srch.push {nx : Nat → List Int} {n s a c : Nat} {seen : List Bool} {todo : List Int} (h : Srch nx n s seen todo) (ha : a < n) (has : seen.getD a false = true) (hc : (c : Int) ∈ nx a) (hcn : c < n) : Srch nx n s (seen.set c true) (todo ++ [(c : Int)]) := by
  have hl := h.len
  refine ⟨by simpa using h.len, fun b hb q => ?_, fun x hx => ?_, ?_, h.start'⟩
  · rw [getD_set (by omega)] at q
    by_cases e : b = c
    · subst e; exact .step (h.way a ha has) hc
    · rw [if_neg e] at q; exact h.way b hb q
  · rcases List.mem_append.1 hx with q | q
    · obtain ⟨b, h1, h2, h3⟩ := h.todo x q
      exact ⟨b, h1, h2, by rw [getD_set (by omega)]; split; rfl; exact h3⟩
    · exact ⟨c, by simpa using q, hcn, by rw [getD_set (by omega), if_pos rfl]⟩
  · rw [getD_set (by omega)]; split; rfl; exact h.start
theorem Srch.done {nx : Nat → List Int} {n s : Nat} {seen : List Bool} {todo : List Int} (h : Srch nx n s seen todo) (hcl : ∀ b c : Nat, b < n → seen.getD b false = true → (c : Int) ∈ nx b → c < n ∧ seen.getD c false = true) : seen = reachG n nx (s : Nat) := by
  have hl := h.len
  refine bool_ext (by rw [reachG_len]; exact h.len) fun b hb => ?_
  have hs := h.start'
  rw [reachG_at (by omega), Int.toNat_natCast]
  constructor
  · intro q; exact ⟨by omega, by omega, h.way b (by omega) q⟩
  · rintro ⟨_, _, w⟩
    have : ∀ b, WayG nx s b → b < n ∧ seen.getD b false = true := by
      intro b w
      induction w with
      | refl => exact ⟨hs, h.start⟩
      | step w hc ih => exact hcl _ _ ih.1 ih.2 hc
    exact (this b w).2
theorem none_reached {n : Nat} {nx : Nat → List Int} {s : Int} (h : ¬ (0 ≤ s ∧ s < n)) : List.replicate n false = reachG n nx s := by
  refine bool_ext (by rw [reachG_len]; simp) fun b hb => ?_
  rw [reachG_at (by simpa using hb), rep_false]
  simp only [Bool.false_eq_true, false_iff]
  exact fun x => h ⟨x.1, x.2.1⟩
theorem next_lt {code : List (Int × Int)} {a : Int} {c : Int} (h : c ∈ nextI code a) : ∃ k : Nat, c = k ∧ k < code.length + 1 := by
  unfold nextI at h
  split at h
  · next h2 =>
    have := next_range (a := a.toNat) (by omega) h
    exact ⟨c.toNat, by omega, by omega⟩
  · cases h
theorem nextI_len (code : List (Int × Int)) (a : Int) : (nextI code a).length ≤ 2 := by
  unfold nextI
  split
  · exact nextL_len _ _
  · simp
end Go.Proofs.Ytollibkfagjnaaa.Shape.Gr

namespace Go.Proofs.Ytollibkfagjnaaa.Shape.Gr
open Go.Proofs.Ytollibkfagjnaaa.AM
noncomputable def reachL (code : List (Int × Int)) (s : Int) : List Bool := reachG (code.length + 1) (fun a => nextI code (a : Nat)) s
theorem reachL_len (code : List (Int × Int)) (s : Int) : (reachL code s).length = code.length + 1 := reachG_len _ _ _
theorem visit_ok {N : Nat} (hN : N < 1000002) (s : Int) {nx : Nat → List Int} {g : FuncId} {sz k i o : Nat} {row : Nat → List PV} (hcall : ∀ a : Nat, a < N → PFun E g [i64 (a : Nat), .fptr sz k row i o] (valQ (isV (encI (nx a)))))
    (hlt : ∀ a, a < N → ∀ c, c ∈ nx a → ∃ j : Nat, c = j ∧ j < N) (hnl : ∀ a, a < N → (nx a).length < 1000000000) : PFun E 68 [i64 (N : Nat), i64 s, .fn g [] [.fptr sz k row i o]] (valQ (isV (encB (reachG N nx s)))) := by
  refine p_fun ?_
  show PTri E false [] _ [i64 (N : Nat), i64 s, .fn g [] [.fptr sz k row i o], .junk, .junk, .junk, .junk, .junk, .junk, .junk, .junk, .junk, .junk, .junk, .junk] _ _
  refine s_run ?_
  refine p_scope ?_
  refine s_run ?_ (hq := by simp only [and_true, true_and]; omega)
  refine s_ass (s_reg (g_run 1 ?_))
  refine prg_split (fun h1 => ?_) (fun h1 => ?_)
  · simp only [decide_eq_true_eq] at h1
    refine g_end ?_
    refine s_t (s_ass (s_run ?_))
    refine s_ret (fin_z [0] rfl ?_)
    rintro v rfl
    rw [← none_reached (show ¬ (0 ≤ s ∧ s < N) by omega)]
    exact .one (.vecf (by decide) rfl (by simp) (Nat.le_refl _) (by simp) fun i hi => rowB_rep _ _)
  simp only [decide_eq_false_iff_not] at h1
  refine g_run 3 ?_
  refine prg_split (fun h2 => ?_) (fun h2 => ?_)
  · simp only [ge_iff_le, decide_eq_true_eq] at h2
    refine g_end ?_
    refine s_t (s_ass (s_run ?_))
    refine s_ret (fin_z [0] rfl ?_)
    rintro v rfl
    rw [← none_reached (show ¬ (0 ≤ s ∧ s < N) by omega)]
    exact .one (.vecf (by decide) rfl (by simp) (Nat.le_refl _) (by simp) fun i hi => rowB_rep _ _)
  simp only [ge_iff_le, decide_eq_false_iff_not] at h2
  obtain ⟨s, rfl⟩ : ∃ b : Nat, s = b := ⟨s.toNat, by omega⟩
  refine g_end ?_
  refine s_f (s_skip ?_)
  refine s_run ?_
  refine s_run ?_
  refine s_label ?_
  refine s_loop (ι := List Bool × List Int) (fun st => Srch nx N s st.1 st.2 ∧ st.2.length + st.1.count false ≤ N ∧ ∀ b, b < N → st.1.getD b false = true → (b : Int) ∈ st.2 ∨ ∀ c : Nat, (c : Int) ∈ nx b → st.1.getD c false = true)
    (fun st => 2 * st.1.count false + st.2.length) (fun st => [i64 (N : Nat), i64 s, .fn g [] [.fptr sz k row i o], .s (.slice none 0 0), .vec 1 0 N, .vec 1 1 st.2.length, .junk, .junk, .junk, .junk, .junk, .junk, .junk, .junk, .junk])
    (fun st => [.vec 1 N (rowB st.1) true, .vec 1 st.2.length (rowI .i64 st.2) false]) ((List.replicate N false).set s true, [(s : Int)]) ?_ (σ := [some 0, some 1]) (wk _ [] _ _ (blks := .cons (bs_vec rfl fun i hi => ?_) (.cons (.vec rfl (by decide) rfl (Nat.le_refl _) (fun h => nomatch h) fun i hi => row1_one (en := i64) (d := 0) (x := (s : Int)) i hi) .nil))) ?_
  · refine ⟨⟨by simp, fun b hb q => ?_, fun x hx => ⟨s, by simpa using hx, by omega, by rw [getD_set (by simp; omega), if_pos rfl]⟩, by rw [getD_set (by simp; omega), if_pos rfl], by omega⟩, ?_, fun b hb q => ?_⟩
    · rw [getD_set (by simp; omega), rep_false] at q
      split at q
      · next e => subst e; exact .refl
      · cases q
    · have := count_set (seen := List.replicate N false) (c := s) (by simp; omega) (rep_false _ _)
      rw [List.count_replicate_self] at this
      simp only [List.length_singleton]; omega
    · rw [getD_set (by simp; omega), rep_false] at q
      split at q
      · next e => subst e; exact .inl (by simp)
      · cases q
  · have := row1_set (en := fun b => PV.s (.bool b)) (d := false) (xs := List.replicate N false) (c := s) (x := true) (.s (.bool true)) rfl (i := i) (by simpa using hi)
    rw [rowB_eq, ← this, ← rowB_eq, ← rowB_rep]
    rfl
  rintro ⟨seen, todo⟩ ⟨hS, hcnt, hcl⟩
  simp only at hS hcnt hcl
  have hlen := hS.len
  have hs' := hS.start'
  refine s_ass (s_run ?_)
  refine s_cond (fun h => ?_) (fun h => ?_)
  · simp only [gt_iff_lt, decide_eq_true_eq] at h
    have hpos : 0 < todo.length := by omega
    obtain ⟨a, ea, han, has⟩ := hS.todo _ (List.getElem_mem (show todo.length - 1 < todo.length by omega))
    have ea' : todo.getD (todo.length - 1) 0 = (a : Int) := by rw [getD_at (by omega), ea]
    have e1 : (todo.length : Int) - 1 = ((todo.length - 1 : Nat) : Int) := by omega
    refine s_skip (p_block (s_reg (g_run 2 ?_)))
    rw [e1]
    refine g_run 2 ?_
    rw [ea']
    refine g_end ?_
    refine s_ass (s_reg ?_)
    refine g_call (hcall a han) ?_
    rintro v rfl
    refine ⟨rfl, ?_⟩
    refine g_end ?_
    have hnl' := hnl a han
    have hlt' := hlt a han
    obtain ⟨l, hl⟩ : ∃ l, nx a = l := ⟨_, rfl⟩
    rw [hl] at hnl' hlt'
    rw [hl]
    refine s_loop (fun j => j ≤ l.length ∧ ∀ j', j' < j → ∀ c : Nat, l.getD j' 0 = (c : Int) → seen.getD c false = true) (fun j => l.length - j) (fun j => [i64 (N : Nat), i64 s, .fn g [] [.fptr sz k row i o], .s (.slice none 0 0), .vec 1 0 N, .vec 1 1 todo.length, i64 (a : Nat), .junk, .junk, .junk, encI l, i64 (l.length : Nat), i64 (j : Nat), .junk, .junk])
      (fun _ => [.vec 1 N (rowB seen) true, .vec 1 todo.length (rowI .i64 todo) false]) 0 ⟨Nat.zero_le _, fun j hj => absurd hj (Nat.not_lt_zero _)⟩ (σ := [some 0, some 1]) (wk _ [] _ _ (blks := .cons bs_same (.cons bs_same .nil))) ?_
    rintro j ⟨hj, hcj⟩
    refine s_run ?_
    refine s_cond (fun h => ?_) (fun h => ?_)
    · simp only [decide_eq_true_eq] at h
      have hjl : j < l.length := by omega
      have hm : l.getD j 0 ∈ l := by rw [getD_at hjl]; exact List.getElem_mem hjl
      obtain ⟨c, hc, hcN⟩ := hlt' _ hm
      refine s_skip (s_block (s_run ?_))
      rw [hc]
      refine s_run ?_
      refine e_cond (fun h2 => ?_) (fun h2 => ?_)
      · have h4' : seen.getD c false = false := by simpa using h2
        refine s_run ?_
        refine s_run ?_ (hq := by simp only [room, true_and, and_true]; omega)
        refine p_exit ?_
        have hcs := count_set (seen := seen) (c := c) (by omega) h4'
        have hlen2 : (todo ++ [(c : Int)]).length = todo.length + 1 := by simp
        refine lp_next (i := (seen, todo)) (seen.set c true, todo ++ [(c : Int)]) ⟨hS.push han has (by rw [hl, ← hc]; exact hm) hcN, by show (todo ++ [(c : Int)]).length + (seen.set c true).count false ≤ N; omega, fun b hb q => ?_⟩ (σ := [some 0, some 3]) (wk _ [] _ _ (vals := ?_) (blks := .cons (bs_vec rfl fun i hi => ?_) (.cons (bs_vec hlen2 fun i hi => ?_) .nil))) (by show 2 * (seen.set c true).count false + (todo ++ [(c : Int)]).length < 2 * seen.count false + todo.length; omega)
        · simp only at q ⊢
          rw [getD_set (by omega)] at q
          by_cases e : b = c
          · subst e; exact .inl (by simp)
          · rw [if_neg e] at q
            rcases hcl b hb q with x | x
            · exact .inl (List.mem_append_left _ x)
            · refine .inr fun c' hc' => ?_
              rw [getD_set (by omega)]; split; rfl; exact x c' hc'
        · exact .cons (.nlv rfl) (.cons (.nlv rfl) (.cons (.nlv rfl) (.cons (.nlv rfl) (.cons (.one (.vec rfl rfl)) (.cons (.one (.vec rfl hlen2.symm)) (.cons (.one (.junk _)) (.cons (.one (.junk _)) (.cons (.one (.junk _)) (.cons (.one (.junk _)) (.cons (.one (.junk _)) (.cons (.one (.junk _)) (.cons (.one (.junk _)) (.cons (.one (.junk _)) (.cons (.one (.junk _)) .nil))))))))))))))
        · exact row1_set (en := fun b => PV.s (.bool b)) (d := false) (x := true) (.s (.bool true)) rfl (by (try dsimp only at hi ⊢); omega)
        · exact row1_push (en := i64) (d := 0) (x := (c : Int)) (xs := todo) (by (try dsimp only at hi ⊢); omega)
      · have h4' : seen.getD c false = true := by simpa using h2
        refine p_skip (e_run ?_)
        refine lp_next (j + 1) ⟨by omega, fun j' hj' c' q => ?_⟩ (σ := [some 0, some 1]) (wk _ [] _ _ (blks := .cons bs_same (.cons bs_same .nil)))
        by_cases e : j' = j
        · subst e; rw [hc] at q
          have : c = c' := by omega
          subst this; exact h4'
        · exact hcj j' (by omega) c' q
    · simp only [decide_eq_false_iff_not] at h
      refine s_exit ?_
      refine e_reg (g_run 2 ?_)
      rw [e1]
      refine g_end ?_
      refine lp_next (i := (seen, todo)) (seen, todo.take (todo.length - 1)) ⟨⟨hS.len, hS.way, fun x hx => hS.todo x (List.mem_of_mem_take hx), hS.start, hS.start'⟩, by show (todo.take (todo.length - 1)).length + seen.count false ≤ N; rw [List.length_take]; omega, fun b hb q => ?_⟩ (σ := [some 0, some 1]) (wk _ [] _ _ (vals := ?_) (blks := .cons bs_same (.cons (.vec rfl (by decide) rfl (by rw [List.length_take]; omega) (fun h => nomatch h) fun i hi => ?_) .nil))) (by show 2 * seen.count false + (todo.take (todo.length - 1)).length < 2 * seen.count false + todo.length; rw [List.length_take]; omega)
      · simp only at q ⊢
        rcases hcl b hb q with x | x
        · obtain ⟨jj, hjj, e⟩ := List.mem_iff_getElem.1 x
          by_cases hlast : jj = todo.length - 1
          · subst hlast
            rw [ea] at e
            have : a = b := by omega
            subst this
            refine .inr fun c hc => ?_
            rw [hl] at hc
            obtain ⟨j', hj', e'⟩ := List.mem_iff_getElem.1 hc
            exact hcj j' (by omega) c (by rw [getD_at hj', e'])
          · refine .inl ?_
            rw [← e]
            exact List.mem_iff_getElem.2 ⟨jj, by rw [List.length_take]; omega, by rw [List.getElem_take]⟩
        · exact .inr x
      · exact .cons (.nlv rfl) (.cons (.nlv rfl) (.cons (.nlv rfl) (.cons (.nlv rfl) (.cons (.one (.vec rfl rfl)) (.cons (.one (.vec rfl (by rw [List.length_take]; omega))) (.cons (.one (.junk _)) (.cons (.one (.junk _)) (.cons (.one (.junk _)) (.cons (.one (.junk _)) (.cons (.one (.junk _)) (.cons (.one (.junk _)) (.cons (.one (.junk _)) (.cons (.one (.junk _)) (.cons (.one (.junk _)) .nil))))))))))))))
      · simp only [rowI]
        have : i < todo.length - 1 := by dsimp only at hi; rw [List.length_take] at hi; omega
        rw [List.getD_eq_getElem?_getD, List.getD_eq_getElem?_getD, List.getElem?_take, if_pos this]
  · simp only [gt_iff_lt, decide_eq_false_iff_not] at h
    have h0 : todo = [] := List.eq_nil_of_length_eq_zero (by omega)
    refine s_exit ?_
    refine s_run ?_
    refine p_ret (fin_z [0] rfl ?_)
    rintro v rfl
    have hfin := hS.done fun b c hb hsb hbc => ?_
    · rw [← hfin]
      exact .one (.vecf (by decide) rfl hlen.symm (Nat.le_refl _) (Nat.le_of_eq hlen) fun i hi => rfl)
    · obtain ⟨c', e1, e2⟩ := hlt b hb _ hbc
      have : c = c' := by omega
      subst this
      rcases hcl b hb hsb with x | x
      · rw [h0] at x; cases x
      · exact ⟨e2, x c hbc⟩
end Go.Proofs.Ytollibkfagjnaaa.Shape.Gr

namespace Go.Proofs.Ytollibkfagjnaaa.Shape.Gr
open Go.Proofs.Ytollibkfagjnaaa.AM
theorem reach1_ok {f : Fn} (hf : Fit f.code) (a : Int) : PFun E 69 [i64 a, .fptr 6 1 (fun _ => cellsF f) 0 0] (valQ (isV (encI (nextI f.code a)))) := by
  refine p_fun ?_
  show PTri E false [] _ [i64 a, .fptr 6 1 (fun _ => cellsF f) 0 0, .junk] _ _
  refine s_run ?_
  refine s_reg (g_run 1 ?_)
  refine g_call (next_ok hf a) ?_
  rintro v rfl
  refine ⟨rfl, ?_⟩
  refine g_end ?_
  exact p_ret fin_v
theorem reach_ok {f : Fn} (hf : Fit f.code) (s : Int) : PFun E 31 [encF f, i64 s] (valQ (isV (encB (reachL f.code s)))) := by
  have f1 := hf.len
  refine p_fun ?_
  show PTri E false [] _ [encF f, i64 s, .junk, .junk] _ _
  refine s_run ?_
  refine p_weak [] [0] (wk [] [0] [encF f, i64 s, .fptr 6 1 (fun _ => cellsF f) 0 0, .junk] [] (vals := ?_)) ?_
  · refine .cons (.nlv rfl) (.cons (.nlv rfl) (.cons (.one ?_) (.cons (.one (.junk _)) .nil)))
    exact .ptrf (by decide) rfl (by omega) rfl (by simp) rfl fun i hi => by
      have : i = 0 := by omega
      subst this; rfl
  refine s_reg (g_run 5 ?_)
  refine g_call (visit_ok (N := f.code.length + 1) (by omega) s (nx := fun a => nextI f.code (a : Nat)) (fun a _ => reach1_ok hf (a : Nat)) (fun a _ c hc => next_lt hc) (fun a _ => by have := nextI_len f.code (a : Nat); omega)) ?_
  rintro v rfl
  refine ⟨rfl, ?_⟩
  refine g_end ?_
  exact p_ret fin_v
end Go.Proofs.Ytollibkfagjnaaa.Shape.Gr

