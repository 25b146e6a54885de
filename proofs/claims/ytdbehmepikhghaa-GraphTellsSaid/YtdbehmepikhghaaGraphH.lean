/- Ways, depth first: what is reached; a way out. -/
import Derived.Test.YtdbehmepikhghaaGraphG
set_option linter.unusedVariables false
set_option linter.unusedSimpArgs false
set_option maxRecDepth 10000
namespace Go.Proofs.Ytdbehmepikhghaa.Graph
open Go.Proofs.Ytdbehmepikhghaa.AM
noncomputable def reachL (code : List (Int × Int)) (s : Int) : List Bool := reachG (code.length + 1) (fun a => nextI code (a : Nat)) s
theorem without_none (code : List (Int × Int)) (s : Int) : withoutL code s (-1) = reachL code s := by
  unfold withoutL reachL
  split
  · next h => exact none_reached (by omega)
  · congr 1
    funext a
    refine List.filter_eq_self.2 fun c hc => ?_
    obtain ⟨k, h1, h2⟩ := next_lt hc
    simp only [decide_eq_true_eq]; omega
theorem reachL_len (code : List (Int × Int)) (s : Int) : (reachL code s).length = code.length + 1 := reachG_len _ _ _
theorem rreach_ok {f : Fn} (hf : Fit f.code) (s : Int) (hs : in64 s) : PFun E 22 [encF f, i64 s] (valQ (isV (encB (reachL f.code s)))) := by
  refine p_fun ?_
  show PTri E false [] _ [encF f, i64 s, .junk, .junk] _ _
  refine s_run ?_
  refine s_reg (g_run 1 ?_)
  refine g_call (rwithout_ok hf s (-1) hs ⟨by omega, by omega⟩) ?_
  rintro v rfl
  refine ⟨rfl, ?_⟩
  rw [without_none]
  refine g_end ?_
  exact p_ret fin_v
/-- The first address without a way out. -/
noncomputable def exitO (code : List (Int × Int)) : Option Nat := (List.range code.length).find? fun a => !((reachL code (a : Nat)).getD code.length false)
noncomputable def exitV (code : List (Int × Int)) : PV := match exitO code with
  | some a => .tup [i64 (a : Nat), .s (.bool true)]
  | none => .tup [i64 0, .s (.bool false)]
theorem find_range {n : Nat} {p : Nat → Bool} {k : Nat} (hk : k < n) (h : ∀ j, j < k → p j = false) (hp : p k = true) : (List.range n).find? p = some k := by
  rw [List.find?_eq_some_iff_append]
  refine ⟨hp, List.range k, List.range' (k + 1) (n - k - 1), ?_, fun j hj => by simp [h j (List.mem_range.1 hj)]⟩
  rw [List.range_eq_range', List.range_eq_range']
  have : n = k + (1 + (n - k - 1)) := by omega
  conv => lhs; rw [this]
  rw [← List.range'_append_1, Nat.add_comm 1, List.range'_succ]
  simp
theorem find_none {n : Nat} {p : Nat → Bool} (h : ∀ j, j < n → p j = false) : (List.range n).find? p = none := by
  rw [List.find?_eq_none]
  intro j hj
  simp [h j (List.mem_range.1 hj)]
theorem rexit_ok {f : Fn} (hf : Fit f.code) : PFun E 24 [encF f] (valQ (isV (exitV f.code))) := by
  have f1 := hf.len
  refine p_fun ?_
  show PTri E false [] _ [encF f, .junk, .junk, .junk, .junk, .junk, .junk, .junk] _ _
  refine s_run ?_
  refine s_ass (s_run ?_)
  refine s_loop (fun a => a ≤ f.code.length ∧ ∀ j, j < a → (!((reachL f.code (j : Nat)).getD f.code.length false)) = false) (fun a => f.code.length - a) (fun a => [encF f, .ptr 0 0, i64 0, .s (.bool false), .s (.int .i64 (a : Nat)), .junk, .junk, .junk]) (fun _ => [.cel (cellsF f)]) 0 ⟨Nat.zero_le _, fun j hj => absurd hj (Nat.not_lt_zero _)⟩ (σ := [some 0]) (wk _ [] _ _ (blks := .cons bs_cel .nil)) ?_
  rintro a ⟨ha, hj⟩
  refine s_ass (s_run ?_)
  refine s_cond (fun h => ?_) (fun h => ?_)
  · simp only [decide_eq_true_eq] at h
    refine s_skip (s_block (s_reg (g_run 1 ?_)))
    refine g_call (rreach_ok hf (a : Nat) ⟨by omega, by omega⟩) ?_
    rintro v rfl
    refine ⟨rfl, ?_⟩
    refine g_end ?_
    have hrl := reachL_len f.code (a : Nat)
    refine s_run ?_
    refine e_cond (fun h2 => ?_) (fun h2 => ?_)
    · refine s_run ?_
      have : exitV f.code = .tup [i64 (a : Nat), .s (.bool true)] := by
        unfold exitV exitO
        rw [find_range (k := a) (by omega) hj h2]
      rw [this]
      exact p_ret fin_v
    · refine p_skip (e_run ?_)
      refine lp_next (a + 1) ⟨by omega, fun j hj' => ?_⟩ (σ := [some 0]) (wk _ [] _ _ (blks := .cons bs_cel .nil))
      by_cases e : j = a
      · subst e; exact h2
      · exact hj j (by omega)
  · simp only [decide_eq_false_iff_not] at h
    refine s_exit ?_
    refine s_run ?_
    have : exitV f.code = .tup [i64 0, .s (.bool false)] := by
      unfold exitV exitO
      rw [find_none fun j hj' => hj j (by omega)]
    rw [this]
    exact p_ret fin_v
theorem visit_ok {N : Nat} (hN : N < 1000002) (s : Int) {nx : Nat → List Int} {g : FuncId} {sz k i o : Nat} {row : Nat → List PV} (hcall : ∀ a : Nat, a < N → PFun E g [i64 (a : Nat), .fptr sz k row i o] (valQ (isV (encI (nx a)))))
    (hlt : ∀ a, a < N → ∀ c, c ∈ nx a → ∃ j : Nat, c = j ∧ j < N) (hnl : ∀ a, a < N → (nx a).length < 1000000000) : PFun E 55 [i64 (N : Nat), i64 s, .fn g [] [.fptr sz k row i o]] (valQ (isV (encB (reachG N nx s)))) := by
  refine p_fun ?_
  show PTri E false [] _ [i64 (N : Nat), i64 s, .fn g [] [.fptr sz k row i o], .junk, .junk, .junk, .junk, .junk, .junk, .junk, .junk, .junk, .junk, .junk, .junk] _ _
  refine s_run ?_
  refine p_scope ?_
  refine s_run ?_ (hq := by simp only [and_true, true_and]; omega)
  refine s_ass (s_reg (g_run 1 ?_))
  refine prg_split (fun h1 => ?_) (fun h1 => ?_)
  · simp only [decide_eq_true_eq] at h1
    refine g_end ?_
    refine s_t (s_ass (s_run ?_))
    refine s_ret (fin_z [0] rfl ?_)
    rintro v rfl
    rw [← none_reached (show ¬ (0 ≤ s ∧ s < N) by omega)]
    exact .one (.vecf (by decide) rfl (by simp) (Nat.le_refl _) (by simp) fun i hi => rowB_rep _ _)
  simp only [decide_eq_false_iff_not] at h1
  refine g_run 3 ?_
  refine prg_split (fun h2 => ?_) (fun h2 => ?_)
  · simp only [ge_iff_le, decide_eq_true_eq] at h2
    refine g_end ?_
    refine s_t (s_ass (s_run ?_))
    refine s_ret (fin_z [0] rfl ?_)
    rintro v rfl
    rw [← none_reached (show ¬ (0 ≤ s ∧ s < N) by omega)]
    exact .one (.vecf (by decide) rfl (by simp) (Nat.le_refl _) (by simp) fun i hi => rowB_rep _ _)
  simp only [ge_iff_le, decide_eq_false_iff_not] at h2
  obtain ⟨s, rfl⟩ : ∃ b : Nat, s = b := ⟨s.toNat, by omega⟩
  refine g_end ?_
  refine s_f (s_skip ?_)
  refine s_run ?_
  refine s_run ?_
  refine s_label ?_
  refine s_loop (ι := List Bool × List Int) (fun st => Srch nx N s st.1 st.2 ∧ st.2.length + st.1.count false ≤ N ∧ ∀ b, b < N → st.1.getD b false = true → (b : Int) ∈ st.2 ∨ ∀ c : Nat, (c : Int) ∈ nx b → st.1.getD c false = true)
    (fun st => 2 * st.1.count false + st.2.length) (fun st => [i64 (N : Nat), i64 s, .fn g [] [.fptr sz k row i o], .s (.slice none 0 0), .vec 1 0 N, .vec 1 1 st.2.length, .junk, .junk, .junk, .junk, .junk, .junk, .junk, .junk, .junk])
    (fun st => [.vec 1 N (rowB st.1) true, .vec 1 st.2.length (rowI .i64 st.2) false]) ((List.replicate N false).set s true, [(s : Int)]) ?_ (σ := [some 0, some 1]) (wk _ [] _ _ (blks := .cons (bs_vec rfl fun i hi => ?_) (.cons (.vec rfl (by decide) rfl (Nat.le_refl _) (fun h => nomatch h) fun i hi => row1_one (en := i64) (d := 0) (x := (s : Int)) i hi) .nil))) ?_
  · refine ⟨⟨by simp, fun b hb q => ?_, fun x hx => ⟨s, by simpa using hx, by omega, by rw [getD_set (by simp; omega), if_pos rfl]⟩, by rw [getD_set (by simp; omega), if_pos rfl], by omega⟩, ?_, fun b hb q => ?_⟩
    · rw [getD_set (by simp; omega), rep_false] at q
      split at q
      · next e => subst e; exact .refl
      · cases q
    · have := count_set (seen := List.replicate N false) (c := s) (by simp; omega) (rep_false _ _)
      rw [List.count_replicate_self] at this
      simp only [List.length_singleton]; omega
    · rw [getD_set (by simp; omega), rep_false] at q
      split at q
      · next e => subst e; exact .inl (by simp)
      · cases q
  · have := row1_set (en := fun b => PV.s (.bool b)) (d := false) (xs := List.replicate N false) (c := s) (x := true) (.s (.bool true)) rfl (i := i) (by simpa using hi)
    rw [rowB_eq, ← this, ← rowB_eq, ← rowB_rep]
    rfl
  rintro ⟨seen, todo⟩ ⟨hS, hcnt, hcl⟩
  simp only at hS hcnt hcl
  have hlen := hS.len
  have hs' := hS.start'
  refine s_ass (s_run ?_)
  refine s_cond (fun h => ?_) (fun h => ?_)
  · simp only [gt_iff_lt, decide_eq_true_eq] at h
    have hpos : 0 < todo.length := by omega
    obtain ⟨a, ea, han, has⟩ := hS.todo _ (List.getElem_mem (show todo.length - 1 < todo.length by omega))
    have ea' : todo.getD (todo.length - 1) 0 = (a : Int) := by rw [getD_at (by omega), ea]
    have e1 : (todo.length : Int) - 1 = ((todo.length - 1 : Nat) : Int) := by omega
    refine s_skip (p_block (s_reg (g_run 2 ?_)))
    rw [e1]
    refine g_run 2 ?_
    rw [ea']
    refine g_end ?_
    refine s_ass (s_reg ?_)
    refine g_call (hcall a han) ?_
    rintro v rfl
    refine ⟨rfl, ?_⟩
    refine g_end ?_
    have hnl' := hnl a han
    have hlt' := hlt a han
    obtain ⟨l, hl⟩ : ∃ l, nx a = l := ⟨_, rfl⟩
    rw [hl] at hnl' hlt'
    rw [hl]
    refine s_loop (fun j => j ≤ l.length ∧ ∀ j', j' < j → ∀ c : Nat, l.getD j' 0 = (c : Int) → seen.getD c false = true) (fun j => l.length - j) (fun j => [i64 (N : Nat), i64 s, .fn g [] [.fptr sz k row i o], .s (.slice none 0 0), .vec 1 0 N, .vec 1 1 todo.length, i64 (a : Nat), .junk, .junk, .junk, encI l, i64 (l.length : Nat), i64 (j : Nat), .junk, .junk])
      (fun _ => [.vec 1 N (rowB seen) true, .vec 1 todo.length (rowI .i64 todo) false]) 0 ⟨Nat.zero_le _, fun j hj => absurd hj (Nat.not_lt_zero _)⟩ (σ := [some 0, some 1]) (wk _ [] _ _ (blks := .cons bs_same (.cons bs_same .nil))) ?_
    rintro j ⟨hj, hcj⟩
    refine s_run ?_
    refine s_cond (fun h => ?_) (fun h => ?_)
    · simp only [decide_eq_true_eq] at h
      have hjl : j < l.length := by omega
      have hm : l.getD j 0 ∈ l := by rw [getD_at hjl]; exact List.getElem_mem hjl
      obtain ⟨c, hc, hcN⟩ := hlt' _ hm
      refine s_skip (s_block (s_run ?_))
      rw [hc]
      refine s_run ?_
      refine e_cond (fun h2 => ?_) (fun h2 => ?_)
      · have h4' : seen.getD c false = false := by simpa using h2
        refine s_run ?_
        refine s_run ?_ (hq := by simp only [room, true_and, and_true]; omega)
        refine p_exit ?_
        have hcs := count_set (seen := seen) (c := c) (by omega) h4'
        have hlen2 : (todo ++ [(c : Int)]).length = todo.length + 1 := by simp
        refine lp_next (i := (seen, todo)) (seen.set c true, todo ++ [(c : Int)]) ⟨hS.push han has (by rw [hl, ← hc]; exact hm) hcN, by show (todo ++ [(c : Int)]).length + (seen.set c true).count false ≤ N; omega, fun b hb q => ?_⟩ (σ := [some 0, some 3]) (wk _ [] _ _ (vals := ?_) (blks := .cons (bs_vec rfl fun i hi => ?_) (.cons (bs_vec hlen2 fun i hi => ?_) .nil))) (by show 2 * (seen.set c true).count false + (todo ++ [(c : Int)]).length < 2 * seen.count false + todo.length; omega)
        · simp only at q ⊢
          rw [getD_set (by omega)] at q
          by_cases e : b = c
          · subst e; exact .inl (by simp)
          · rw [if_neg e] at q
            rcases hcl b hb q with x | x
            · exact .inl (List.mem_append_left _ x)
            · refine .inr fun c' hc' => ?_
              rw [getD_set (by omega)]; split; rfl; exact x c' hc'
        · exact .cons (.nlv rfl) (.cons (.nlv rfl) (.cons (.nlv rfl) (.cons (.nlv rfl) (.cons (.one (.vec rfl rfl)) (.cons (.one (.vec rfl hlen2.symm)) (.cons (.one (.junk _)) (.cons (.one (.junk _)) (.cons (.one (.junk _)) (.cons (.one (.junk _)) (.cons (.one (.junk _)) (.cons (.one (.junk _)) (.cons (.one (.junk _)) (.cons (.one (.junk _)) (.cons (.one (.junk _)) .nil))))))))))))))
        · exact row1_set (en := fun b => PV.s (.bool b)) (d := false) (x := true) (.s (.bool true)) rfl (by (try dsimp only at hi ⊢); omega)
        · exact row1_push (en := i64) (d := 0) (x := (c : Int)) (xs := todo) (by (try dsimp only at hi ⊢); omega)
      · have h4' : seen.getD c false = true := by simpa using h2
        refine p_skip (e_run ?_)
        refine lp_next (j + 1) ⟨by omega, fun j' hj' c' q => ?_⟩ (σ := [some 0, some 1]) (wk _ [] _ _ (blks := .cons bs_same (.cons bs_same .nil)))
        by_cases e : j' = j
        · subst e; rw [hc] at q
          have : c = c' := by omega
          subst this; exact h4'
        · exact hcj j' (by omega) c' q
    · simp only [decide_eq_false_iff_not] at h
      refine s_exit ?_
      refine e_reg (g_run 2 ?_)
      rw [e1]
      refine g_end ?_
      refine lp_next (i := (seen, todo)) (seen, todo.take (todo.length - 1)) ⟨⟨hS.len, hS.way, fun x hx => hS.todo x (List.mem_of_mem_take hx), hS.start, hS.start'⟩, by show (todo.take (todo.length - 1)).length + seen.count false ≤ N; rw [List.length_take]; omega, fun b hb q => ?_⟩ (σ := [some 0, some 1]) (wk _ [] _ _ (vals := ?_) (blks := .cons bs_same (.cons (.vec rfl (by decide) rfl (by rw [List.length_take]; omega) (fun h => nomatch h) fun i hi => ?_) .nil))) (by show 2 * seen.count false + (todo.take (todo.length - 1)).length < 2 * seen.count false + todo.length; rw [List.length_take]; omega)
      · simp only at q ⊢
        rcases hcl b hb q with x | x
        · obtain ⟨jj, hjj, e⟩ := List.mem_iff_getElem.1 x
          by_cases hlast : jj = todo.length - 1
          · subst hlast
            rw [ea] at e
            have : a = b := by omega
            subst this
            refine .inr fun c hc => ?_
            rw [hl] at hc
            obtain ⟨j', hj', e'⟩ := List.mem_iff_getElem.1 hc
            exact hcj j' (by omega) c (by rw [getD_at hj', e'])
          · refine .inl ?_
            rw [← e]
            exact List.mem_iff_getElem.2 ⟨jj, by rw [List.length_take]; omega, by rw [List.getElem_take]⟩
        · exact .inr x
      · exact .cons (.nlv rfl) (.cons (.nlv rfl) (.cons (.nlv rfl) (.cons (.nlv rfl) (.cons (.one (.vec rfl rfl)) (.cons (.one (.vec rfl (by rw [List.length_take]; omega))) (.cons (.one (.junk _)) (.cons (.one (.junk _)) (.cons (.one (.junk _)) (.cons (.one (.junk _)) (.cons (.one (.junk _)) (.cons (.one (.junk _)) (.cons (.one (.junk _)) (.cons (.one (.junk _)) (.cons (.one (.junk _)) .nil))))))))))))))
      · simp only [rowI]
        have : i < todo.length - 1 := by dsimp only at hi; rw [List.length_take] at hi; omega
        rw [List.getD_eq_getElem?_getD, List.getD_eq_getElem?_getD, List.getElem?_take, if_pos this]
  · simp only [gt_iff_lt, decide_eq_false_iff_not] at h
    have h0 : todo = [] := List.eq_nil_of_length_eq_zero (by omega)
    refine s_exit ?_
    refine s_run ?_
    refine p_ret (fin_z [0] rfl ?_)
    rintro v rfl
    have hfin := hS.done fun b c hb hsb hbc => ?_
    · rw [← hfin]
      exact .one (.vecf (by decide) rfl hlen.symm (Nat.le_refl _) (Nat.le_of_eq hlen) fun i hi => rfl)
    · obtain ⟨c', e1, e2⟩ := hlt b hb _ hbc
      have : c = c' := by omega
      subst this
      rcases hcl b hb hsb with x | x
      · rw [h0] at x; cases x
      · exact ⟨e2, x c hbc⟩
end Go.Proofs.Ytdbehmepikhghaa.Graph
