/- Ways: what is reached, breadth first and depth first. -/
import Derived.Test.YtdbehmepikhghaaGraphF
set_option linter.unusedVariables false
set_option linter.unusedSimpArgs false
set_option maxRecDepth 10000
namespace Go.Proofs.Ytdbehmepikhghaa.Graph
open Go.Proofs.Ytdbehmepikhghaa.AM
/-- To which nodes there are ways. -/
inductive WayG (nx : Nat → List Int) (s : Nat) : Nat → Prop
  | refl : WayG nx s s
  | step {b c : Nat} (h : WayG nx s b) (hc : (c : Int) ∈ nx b) : WayG nx s c
noncomputable def reachG (n : Nat) (nx : Nat → List Int) (s : Int) : List Bool := (List.range n).map fun (b : Nat) => @decide (0 ≤ s ∧ s < n ∧ WayG nx s.toNat b) (Classical.propDecidable _)
theorem reachG_len (n : Nat) (nx : Nat → List Int) (s : Int) : (reachG n nx s).length = n := by simp [reachG]
theorem reachG_at {n : Nat} {nx : Nat → List Int} {s : Int} {b : Nat} (hb : b < n) : (reachG n nx s).getD b false = true ↔ 0 ≤ s ∧ s < n ∧ WayG nx s.toNat b := by
  unfold reachG
  rw [List.getD_eq_getElem?_getD, List.getElem?_map, List.getElem?_range hb]
  simp only [Option.map_some, Option.getD_some]
  exact @decide_eq_true_iff _ (Classical.propDecidable _)
theorem bool_ext {xs ys : List Bool} (hl : xs.length = ys.length) (h : ∀ b, b < xs.length → (xs.getD b false = true ↔ ys.getD b false = true)) : xs = ys := by
  refine List.ext_getElem hl fun i h1 h2 => ?_
  have := h i h1
  simp only [List.getD_eq_getElem?_getD, List.getElem?_eq_getElem h1, List.getElem?_eq_getElem h2, Option.getD_some] at this
  cases hx : xs[i] <;> cases hy : ys[i] <;> simp_all
theorem getD_set {seen : List Bool} {c b : Nat} (hc : c < seen.length) : (seen.set c true).getD b false = if b = c then true else seen.getD b false := by
  by_cases h : b = c
  · subst h; rw [if_pos rfl]; simp [List.getD_eq_getElem?_getD, hc]
  · rw [if_neg h]; simp only [List.getD_eq_getElem?_getD, List.getElem?_set_ne (Ne.symm h)]
theorem count_set : ∀ {seen : List Bool} {c : Nat}, c < seen.length → seen.getD c false = false → (seen.set c true).count false + 1 = seen.count false
  | [], c, h, _ => by simp at h
  | x :: seen, 0, h, h2 => by
    have : x = false := by simpa [List.getD_eq_getElem?_getD] using h2
    subst this; simp
  | x :: seen, c + 1, h, h2 => by
    have ih := count_set (seen := seen) (c := c) (by simpa using h) (by simpa [List.getD_eq_getElem?_getD] using h2)
    simp only [List.set_cons_succ, List.count_cons]
    omega
theorem rep_false (n b : Nat) : (List.replicate n false).getD b false = false := by
  simp only [List.getD_eq_getElem?_getD, List.getElem?_replicate]; split <;> rfl
theorem getD_at {α : Type} {l : List α} {i : Nat} {d : α} (h : i < l.length) : l.getD i d = l[i] := by simp [List.getD_eq_getElem?_getD, h]
/-- In the midst of a search. -/
structure Srch (nx : Nat → List Int) (n s : Nat) (seen : List Bool) (todo : List Int) : Prop where
  len : seen.length = n
  way : ∀ b, b < n → seen.getD b false = true → WayG nx s b
  todo : ∀ x, x ∈ todo → ∃ b : Nat, x = b ∧ b < n ∧ seen.getD b false = true
  start : seen.getD s false = true
  start' : s < n
theorem Srch.push {nx : Nat → List Int} {n s a c : Nat} {seen : List Bool} {todo : List Int} (h : Srch nx n s seen todo) (ha : a < n) (has : seen.getD a false = true) (hc : (c : Int) ∈ nx a) (hcn : c < n) : Srch nx n s (seen.set c true) (todo ++ [(c : Int)]) := by
  have hl := h.len
  refine ⟨by simpa using h.len, fun b hb q => ?_, fun x hx => ?_, ?_, h.start'⟩
  · rw [getD_set (by omega)] at q
    by_cases e : b = c
    · subst e; exact .step (h.way a ha has) hc
    · rw [if_neg e] at q; exact h.way b hb q
  · rcases List.mem_append.1 hx with q | q
    · obtain ⟨b, h1, h2, h3⟩ := h.todo x q
      exact ⟨b, h1, h2, by rw [getD_set (by omega)]; split; rfl; exact h3⟩
    · exact ⟨c, by simpa using q, hcn, by rw [getD_set (by omega), if_pos rfl]⟩
  · rw [getD_set (by omega)]; split; rfl; exact h.start
theorem Srch.done {nx : Nat → List Int} {n s : Nat} {seen : List Bool} {todo : List Int} (h : Srch nx n s seen todo) (hcl : ∀ b c : Nat, b < n → seen.getD b false = true → (c : Int) ∈ nx b → c < n ∧ seen.getD c false = true) : seen = reachG n nx (s : Nat) := by
  have hl := h.len
  refine bool_ext (by rw [reachG_len]; exact h.len) fun b hb => ?_
  have hs := h.start'
  rw [reachG_at (by omega), Int.toNat_natCast]
  constructor
  · intro q; exact ⟨by omega, by omega, h.way b (by omega) q⟩
  · rintro ⟨_, _, w⟩
    have : ∀ b, WayG nx s b → b < n ∧ seen.getD b false = true := by
      intro b w
      induction w with
      | refl => exact ⟨hs, h.start⟩
      | step w hc ih => exact hcl _ _ ih.1 ih.2 hc
    exact (this b w).2
theorem hmem_seen {nx : Nat → List Int} {n s a k : Nat} {seen : List Bool} {todo : List Int} (h : Srch nx n s seen todo) (ea : todo.getD k 0 = (a : Int)) (hk : k < todo.length) : seen.getD a false = true := by
  obtain ⟨b, h1, h2, h3⟩ := h.todo _ (List.getElem_mem hk)
  rw [getD_at hk, h1] at ea
  have : b = a := by omega
  subst this; exact h3
theorem none_reached {n : Nat} {nx : Nat → List Int} {s : Int} (h : ¬ (0 ≤ s ∧ s < n)) : List.replicate n false = reachG n nx s := by
  refine bool_ext (by rw [reachG_len]; simp) fun b hb => ?_
  rw [reachG_at (by simpa using hb), rep_false]
  simp only [Bool.false_eq_true, false_iff]
  exact fun x => h ⟨x.1, x.2.1⟩
/-- Without a node. -/
def nxW (code : List (Int × Int)) (wo : Int) : Nat → List Int := fun a => (nextI code (a : Nat)).filter fun c => decide (c ≠ wo)
theorem next_lt {code : List (Int × Int)} {a : Int} {c : Int} (h : c ∈ nextI code a) : ∃ k : Nat, c = k ∧ k < code.length + 1 := by
  unfold nextI at h
  split at h
  · next h2 =>
    have := next_range (a := a.toNat) (by omega) h
    exact ⟨c.toNat, by omega, by omega⟩
  · cases h
noncomputable def withoutL (code : List (Int × Int)) (s wo : Int) : List Bool := if s = wo then List.replicate (code.length + 1) false else reachG (code.length + 1) (nxW code wo) s
theorem nextI_len (code : List (Int × Int)) (a : Int) : (nextI code a).length ≤ 2 := by
  unfold nextI
  split
  · exact nextL_len _ _
  · simp
theorem rwithout_ok {f : Fn} (hf : Fit f.code) (s wo : Int) (hs : in64 s) (hw : in64 wo) : PFun E 57 [encF f, i64 s, i64 wo] (valQ (isV (encB (withoutL f.code s wo)))) := by
  have f1 := hf.len
  obtain ⟨n, hn⟩ : ∃ n, f.code.length = n := ⟨_, rfl⟩
  rw [hn] at f1
  refine p_fun ?_
  show PTri E false [] _ [encF f, i64 s, i64 wo, .junk, .junk, .junk, .junk, .junk, .junk, .junk, .junk, .junk, .junk, .junk, .junk] _ _
  refine s_run ?_
  refine s_run ?_ (hq := by simp only [in64, and_true, true_and]; omega)
  rw [hn]
  refine s_run ?_ (hq := by simp only [and_true, true_and]; omega)
  have hout : ∀ {hp : PH} {T : List PV}, (s = wo ∨ ¬ (0 ≤ s ∧ s < (n + 1 : Nat))) → withoutL f.code s wo = List.replicate (n + 1) false := by
    intro hp T h
    unfold withoutL
    rw [hn]
    split
    · rfl
    · exact (none_reached (by omega)).symm
  refine s_ass (s_reg (g_run 1 ?_))
  refine prg_split (fun h1 => ?_) (fun h1 => ?_)
  · simp only [decide_eq_true_eq] at h1
    refine g_end ?_
    refine s_t (s_ass (s_run ?_))
    refine s_ret (fin_z [1] rfl ?_)
    rintro v rfl
    rw [hout (hp := []) (T := []) (.inr (by omega))]
    exact .one (.vecf (by decide) rfl (by simp) (Nat.le_refl _) (by simp) fun i hi => rowB_rep _ _)
  simp only [decide_eq_false_iff_not] at h1
  refine g_run 3 ?_
  refine prg_split (fun h2 => ?_) (fun h2 => ?_)
  · simp only [ge_iff_le, decide_eq_true_eq] at h2
    refine g_end ?_
    refine s_t (s_ass (s_run ?_))
    refine s_ret (fin_z [1] rfl ?_)
    rintro v rfl
    rw [hout (hp := []) (T := []) (.inr (by omega))]
    exact .one (.vecf (by decide) rfl (by simp) (Nat.le_refl _) (by simp) fun i hi => rowB_rep _ _)
  simp only [ge_iff_le, decide_eq_false_iff_not] at h2
  refine g_run 4 ?_
  refine prg_split (fun h3 => ?_) (fun h3 => ?_)
  · simp only [beq_iff_eq] at h3
    refine g_end ?_
    refine s_t (s_ass (s_run ?_))
    refine s_ret (fin_z [1] rfl ?_)
    rintro v rfl
    rw [hout (hp := []) (T := []) (.inl h3)]
    exact .one (.vecf (by decide) rfl (by simp) (Nat.le_refl _) (by simp) fun i hi => rowB_rep _ _)
  simp only [beq_eq_false_iff_ne, ne_eq] at h3
  obtain ⟨s, rfl⟩ : ∃ b : Nat, s = b := ⟨s.toNat, by omega⟩
  refine g_end ?_
  refine s_f (s_skip ?_)
  refine s_run ?_
  refine s_run ?_
  refine s_ass (s_run ?_)
  -- the search
  have h3' : ((s : Nat) : Int) ≠ wo := h3
  refine s_loop (ι := List Bool × List Int × Nat) (fun st => Srch (nxW f.code wo) (n + 1) s st.1 st.2.1 ∧ st.2.2 ≤ st.2.1.length ∧ st.2.1.length + st.1.count false = n + 1 ∧ (∀ b, b < n + 1 → st.1.getD b false = true → (b : Int) ∈ st.2.1) ∧ ∀ j, j < st.2.2 → ∀ a c : Nat, st.2.1.getD j 0 = (a : Int) → (c : Int) ∈ nxW f.code wo a → st.1.getD c false = true)
    (fun st => n + 1 - st.2.2) (fun st => [encF f, i64 s, i64 wo, .ptr 0 0, .s (.slice none 0 0), i64 ((n : Int) + 1), .vec 1 1 (n + 1), .vec 1 2 st.2.1.length, i64 (st.2.2 : Nat), .junk, .junk, .junk, .junk, .junk, .junk])
    (fun st => [.cel (cellsF f), .vec 1 (n + 1) (rowB st.1) true, .vec 1 st.2.1.length (rowI .i64 st.2.1) true]) ((List.replicate (n + 1) false).set s true, [(s : Int)], 0) ?_ (σ := [some 0, some 1, some 2]) (wk _ [] _ _ (blks := .cons bs_cel (.cons (bs_vec rfl fun i hi => ?_) (.cons (bs_vec rfl fun i hi => row1_one (en := i64) (d := 0) (x := (s : Int)) i hi) .nil)))) ?_
  · refine ⟨⟨by simp, fun b hb q => ?_, fun x hx => ⟨s, by simpa using hx, by omega, by rw [getD_set (by simp; omega), if_pos rfl]⟩, by rw [getD_set (by simp; omega), if_pos rfl], by omega⟩, Nat.zero_le _, ?_, fun b hb q => ?_, fun j hj => absurd hj (Nat.not_lt_zero _)⟩
    · rw [getD_set (by simp; omega), rep_false] at q
      split at q
      · next e => subst e; exact .refl
      · cases q
    · have := count_set (seen := List.replicate (n + 1) false) (c := s) (by simp; omega) (rep_false _ _)
      rw [List.count_replicate_self] at this
      simp only [List.length_singleton]; omega
    · rw [getD_set (by simp; omega), rep_false] at q
      split at q
      · next e => subst e; simp
      · cases q
  · rw [rowB_eq]
    have := row1_set (en := fun b => PV.s (.bool b)) (d := false) (xs := List.replicate (n + 1) false) (c := s) (x := true) (.s (.bool true)) rfl (i := i) (by simpa using hi)
    rw [← this, ← rowB_eq, ← rowB_rep]
    rfl
  rintro ⟨seen, todo, k⟩ ⟨hS, hk, hcnt, hmem, hcl⟩
  simp only at hS hk hcnt hmem hcl
  have hlen := hS.len
  refine s_ass (s_run ?_)
  refine s_cond (fun h => ?_) (fun h => ?_)
  · simp only [decide_eq_true_eq] at h
    have hkl : k < todo.length := by omega
    obtain ⟨a, ea, han, has⟩ := hS.todo _ (List.getElem_mem hkl)
    have ea' : todo.getD k 0 = (a : Int) := by rw [getD_at hkl, ea]
    refine s_skip (s_block (s_drw (g_run 3 ?_)))
    rw [ea']
    refine g_call (rnext_ok hf (a : Nat)) ?_
    rintro v rfl
    refine ⟨rfl, ?_⟩
    refine g_end ?_
    refine s_run ?_
    obtain ⟨l, hl⟩ : ∃ l, nextI f.code (a : Nat) = l := ⟨_, rfl⟩
    have hl2 := nextI_len f.code (a : Nat)
    rw [hl] at hl2
    rw [hl]
    refine e_loop (ι := List Bool × List Int × Nat) (fun st => Srch (nxW f.code wo) (n + 1) s st.1 st.2.1 ∧ st.2.2 ≤ l.length ∧ st.2.1.length + st.1.count false = n + 1 ∧ (∀ b, b < n + 1 → st.1.getD b false = true → (b : Int) ∈ st.2.1) ∧ k < st.2.1.length ∧ st.2.1.getD k 0 = (a : Int) ∧ (∀ j, j < k → ∀ a c : Nat, st.2.1.getD j 0 = (a : Int) → (c : Int) ∈ nxW f.code wo a → st.1.getD c false = true) ∧ ∀ i, i < st.2.2 → ∀ c : Nat, l.getD i 0 = (c : Int) → (c : Int) ≠ wo → st.1.getD c false = true)
      (fun st => l.length - st.2.2) (fun st => [encF f, i64 s, i64 wo, .ptr 0 0, .s (.slice none 0 0), i64 ((n : Int) + 1), .vec 1 1 (n + 1), .vec 1 2 st.2.1.length, i64 (k : Nat), encI l, i64 (st.2.2 : Nat), .junk, .junk, .junk, .junk])
      (fun st => [.cel (cellsF f), .vec 1 (n + 1) (rowB st.1) true, .vec 1 st.2.1.length (rowI .i64 st.2.1) true]) (seen, todo, 0) ⟨hS, Nat.zero_le _, hcnt, hmem, hkl, ea', hcl, fun i hi => absurd hi (Nat.not_lt_zero _)⟩ (σ := [some 0, some 1, some 2]) (wk _ [] _ _ (blks := .cons bs_cel (.cons bs_same (.cons bs_same .nil)))) ?_
    rintro ⟨seen, todo, i⟩ ⟨hS, hi, hcnt, hmem, hkl, ea', hcl, hci⟩
    simp only at hS hi hcnt hmem hkl ea' hcl hci
    have hlen := hS.len
    refine s_ass (s_run ?_)
    refine s_cond (fun h => ?_) (fun h => ?_)
    · simp only [decide_eq_true_eq] at h
      have hil : i < l.length := by omega
      have hmeml : l.getD i 0 ∈ l := by rw [getD_at hil]; exact List.getElem_mem hil
      have hm0 : l.getD i 0 ∈ nextI f.code (a : Nat) := by rw [hl]; exact hmeml
      obtain ⟨c, hc, hcn⟩ := next_lt hm0
      rw [hn] at hcn
      have hcnx : (c : Int) ≠ wo → (c : Int) ∈ nxW f.code wo a := fun q => List.mem_filter.2 ⟨by rw [hl, ← hc]; exact hmeml, by simpa using q⟩
      have ha' : a < n + 1 := han
      refine s_skip (s_block (s_reg (g_run 2 ?_)))
      rw [hc]
      refine g_run 3 ?_
      have keep : ((c : Int) = wo ∨ seen.getD c false = true) → ∀ i', i' < i + 1 → ∀ c' : Nat, l.getD i' 0 = (c' : Int) → (c' : Int) ≠ wo → seen.getD c' false = true := by
        intro hq i' hi' c' h1 h2
        by_cases e : i' = i
        · subst e
          rw [hc] at h1
          have : c = c' := by omega
          subst this
          rcases hq with q | q
          · exact absurd q h2
          · exact q
        · exact hci i' (by omega) c' h1 h2
      refine prg_split (fun h4 => ?_) (fun h4 => ?_)
      · have h4' : seen.getD c false = false := by simpa using h4
        refine g_run 6 ?_
        rw [hc]
        refine prg_split (fun h5 => ?_) (fun h5 => ?_)
        · simp only [bne_iff_ne, ne_eq] at h5
          refine g_end ?_
          refine e_t ?_
          refine s_reg (g_run 2 ?_)
          rw [hc]
          refine g_end ?_
          have htl : todo.length ≤ n + 1 := by omega
          refine e_run ?_ (hq := by simp only [room, true_and, and_true]; omega)
          rw [hc]
          refine e_run ?_
          have hlen2 : (todo ++ [(c : Int)]).length = todo.length + 1 := by simp
          have hcs := count_set (seen := seen) (c := c) (by omega) h4'
          refine lp_next (i := (seen, todo, i)) (seen.set c true, todo ++ [(c : Int)], i + 1) ⟨hS.push ha' (hmem_seen hS ea' hkl) (hcnx h5) hcn, by show i + 1 ≤ l.length; omega, by show (todo ++ [(c : Int)]).length + (seen.set c true).count false = n + 1; omega, fun b hb q => ?_, by show k < (todo ++ [(c : Int)]).length; omega, ?_, fun j hj a' c' q1 q2 => ?_, fun i' hi' c' q1 q2 => ?_⟩ (σ := [some 0, some 1, some 4]) (wk _ [] _ _ (vals := ?_) (blks := .cons bs_cel (.cons (bs_vec rfl fun i hi => ?_) (.cons (bs_vec hlen2 fun i hi => ?_) .nil))))
          · simp only at q ⊢
            rw [getD_set (by omega)] at q
            by_cases e : b = c
            · subst e; simp
            · rw [if_neg e] at q; exact List.mem_append_left _ (hmem b hb q)
          · show (todo ++ [(c : Int)]).getD k 0 = (a : Int)
            rw [List.getD_eq_getElem?_getD, List.getElem?_append_left hkl, ← List.getD_eq_getElem?_getD]; exact ea'
          · simp only at q1 ⊢
            rw [List.getD_eq_getElem?_getD, List.getElem?_append_left (by omega), ← List.getD_eq_getElem?_getD] at q1
            have := hcl j hj a' c' q1 q2
            rw [getD_set (by omega)]; split; rfl; exact this
          · simp only at hi' ⊢
            rw [getD_set (by omega)]
            by_cases e : c' = c
            · rw [if_pos e]
            · rw [if_neg e]
              by_cases e2 : i' = i
              · subst e2; rw [hc] at q1; exact absurd (by omega) e
              · exact hci i' (by omega) c' q1 q2
          · exact .cons (.nlv rfl) (.cons (.nlv rfl) (.cons (.nlv rfl) (.cons (.one (.ptr rfl)) (.cons (.nlv rfl) (.cons (.nlv rfl) (.cons (.one (.vec rfl rfl)) (.cons (.one (.vec rfl hlen2.symm)) (.cons (.nlv rfl) (.cons (.nlv rfl) (.cons (.nlv rfl) (.cons (.one (.junk _)) (.cons (.one (.junk _)) (.cons (.one (.junk _)) (.cons (.one (.junk _)) .nil))))))))))))))
          · exact row1_set (en := fun b => PV.s (.bool b)) (d := false) (x := true) (.s (.bool true)) rfl (by (try dsimp only at hi ⊢); omega)
          · exact row1_push (en := i64) (d := 0) (x := (c : Int)) (xs := todo) (by (try dsimp only at hi ⊢); omega)
        · simp only [bne_eq_false_iff_eq] at h5
          refine g_end ?_
          refine e_f ?_
          refine p_skip (e_run ?_)
          exact lp_next (i := (seen, todo, i)) (seen, todo, i + 1) ⟨hS, by show i + 1 ≤ l.length; omega, hcnt, hmem, hkl, ea', hcl, keep (.inl h5)⟩ (σ := [some 0, some 1, some 2]) (wk _ [] _ _ (blks := .cons bs_cel (.cons bs_same (.cons bs_same .nil))))
      · have h4' : seen.getD c false = true := by simpa using h4
        refine g_end ?_
        refine e_f ?_
        refine p_skip (e_run ?_)
        exact lp_next (i := (seen, todo, i)) (seen, todo, i + 1) ⟨hS, by show i + 1 ≤ l.length; omega, hcnt, hmem, hkl, ea', hcl, keep (.inr h4')⟩ (σ := [some 0, some 1, some 2]) (wk _ [] _ _ (blks := .cons bs_cel (.cons bs_same (.cons bs_same .nil))))
    · simp only [decide_eq_false_iff_not] at h
      refine s_exit ?_
      refine e_run ?_
      refine lp_next (seen, todo, k + 1) ⟨hS, by show k + 1 ≤ todo.length; omega, hcnt, hmem, fun j hj a' c' q1 q2 => ?_⟩ (σ := [some 0, some 1, some 2]) (wk _ [] _ _ (blks := .cons bs_cel (.cons bs_same (.cons bs_same .nil))))
      simp only at hj q1 ⊢
      by_cases e : j = k
      · subst e
        rw [ea'] at q1
        have : a = a' := by omega
        subst this
        have q3 := List.mem_filter.1 q2
        rw [hl] at q3
        obtain ⟨i', hi', e'⟩ := List.mem_iff_getElem.1 q3.1
        exact hci i' (by omega) c' (by rw [getD_at hi', e']) (by simpa using q3.2)
      · exact hcl j (by omega) a' c' q1 q2
  · simp only [decide_eq_false_iff_not] at h
    refine s_exit ?_
    refine s_run ?_
    refine p_ret (fin_z [1] rfl ?_)
    rintro v rfl
    have hfin := hS.done fun b c hb hsb hbc => ?_
    · have : withoutL f.code (s : Nat) wo = seen := by
        rw [hfin]; unfold withoutL; rw [if_neg h3', hn]
      rw [this]
      exact .one (.vecf (by decide) rfl hlen.symm (Nat.le_refl _) (Nat.le_of_eq hlen) fun i hi => rfl)
    · obtain ⟨j, hj, ej⟩ := List.mem_iff_getElem.1 (hmem b hb hsb)
      have hcc := next_lt (List.mem_filter.1 hbc).1
      obtain ⟨c', e1, e2⟩ := hcc
      have : c = c' := by omega
      subst this
      exact ⟨by omega, hcl j (by omega) b c (by rw [getD_at hj, ej]) hbc⟩
end Go.Proofs.Ytdbehmepikhghaa.Graph
