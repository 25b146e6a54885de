import Derived.Test.YtggaimcopbjdiaaPostRev
import Derived.Test.YtggaimcopbjdiaaPostDfs
set_option linter.unusedVariables false
set_option linter.unusedSimpArgs false
set_option maxRecDepth 10000
namespace Go.Proofs.Ytggaimcopbjdiaa.Graph
open Go.Proofs.Ytggaimcopbjdiaa.AM Go.Proofs.Ytggaimcopbjdiaa.Post
def natI (l : List Nat) : List Int := l.map fun a : Nat => ((a : Nat) : Int)
theorem natI_at {l : List Nat} {i : Nat} (hi : i < l.length) : (natI l).getD i 0 = ((l.getD i 0 : Nat) : Int) := by
 simp [natI, List.getD_eq_getElem?_getD, hi]
theorem natI_len (l : List Nat) : (natI l).length = l.length := by simp [natI]
theorem nodup_lt : ∀ {n : Nat} {l : List Nat}, l.Nodup → (∀ a, a ∈ l → a < n) → l.length ≤ n
 | 0, l, _, h => by
   cases l with
   | nil => exact Nat.le_refl _
   | cons a l => exact absurd (h a (by simp)) (by omega)
 | n + 1, l, hn, h => by
   have := nodup_lt (n := n) (l := l.erase n) (hn.erase n) fun a ha => by
    obtain ⟨h1, h2⟩ := hn.mem_erase_iff.1 ha
    have := h a h2
    omega
   rw [List.length_erase] at this
   split at this <;> omega
def rowP (st : List (Nat × Nat)) : Nat → List PV := fun i => [i64 ((st.getD i (0, 0)).1 : Nat), i64 ((st.getD i (0, 0)).2 : Nat)]
def oT (n : Nat) (back : PV) (out : List Nat) (st : List (Nat × Nat)) : List PV := [i64 (n : Nat), back, .s (.slice none 0 0), .vec 1 0 n, .vec 1 1 out.length, .vec 2 2 st.length, .junk, .junk, .junk, .junk, .junk]
def oH (n : Nat) (seen : List Bool) (out : List Nat) (st : List (Nat × Nat)) : PH := [.vec 1 n (rowB seen) true, .vec 1 out.length (rowI .i64 (natI out)) true, .vec 2 st.length (rowP st) false]
theorem snoc_at {α : Type} {s : List α} {e d : α} : (s ++ [e]).getD s.length d = e := by simp [List.getD_eq_getElem?_getD]
theorem rowP_snoc {s : List (Nat × Nat)} {e : Nat × Nat} {j : Nat} (hj : j < s.length) : rowP (s ++ [e]) j = rowP s j := by
 unfold rowP
 simp only [List.getD_eq_getElem?_getD, List.getElem?_append_left hj]
theorem rowP_next {s : List (Nat × Nat)} {a k : Nat} {j : Nat} (hj : j < s.length + 1) : (if j = s.length then psplice (rowP (s ++ [(a, k)]) j) 1 (pcs (i64 ((k + 1 : Nat) : Int))) else rowP (s ++ [(a, k)]) j) = rowP (s ++ [(a, k + 1)]) j := by
 by_cases e : j = s.length
 ·subst e
  rw [if_pos rfl]
  unfold rowP
  rw [snoc_at, snoc_at]
  rfl
 ·rw [if_neg e, rowP_snoc (by omega), rowP_snoc (by omega)]
theorem natI_snoc (out : List Nat) (a : Nat) : natI (out ++ [a]) = natI out ++ [(a : Int)] := by simp [natI]
theorem order_ok {x : Nat} {rows : Nat → List Nat} (hr : ∀ a, a < x + 1 → ∀ c, c ∈ rows a → c < x + 1) {B : Nat} (hB : ∀ a, a < x + 1 → (rows a).length ≤ B) (hx : x < 1000000) (hBs : B < 1000000) {rowsI : Nat → List Int} (hI : ∀ a, a < x + 1 → rowsI a = natI (rows a)) :
  PFun E 65 [i64 ((x + 1 : Nat) : Int), .frz 1 (x + 1) (x + 1) fun i => [encI (rowsI i)]] (valQ fun v => ∃ l, OrdL (x + 1) x rows l ∧ v = encI (natI l)) := by
 obtain ⟨back, hback⟩ : ∃ back : PV, back = .frz 1 (x + 1) (x + 1) fun i => [encI (rowsI i)] := ⟨_, rfl⟩
 refine p_fun ?_
 show PTri E false [] _ [i64 ((x + 1 : Nat) : Int), .frz 1 (x + 1) (x + 1) (fun i => [encI (rowsI i)]), .junk, .junk, .junk, .junk, .junk, .junk, .junk, .junk, .junk] _ _
 refine s_run ?_
 refine s_run ?_
 refine s_run ?_
 refine s_reg (g_run 1 ?_)
 refine prg_head (v' := i64 (x : Nat)) (by unfold i64; congr 2; omega) ?_
 refine g_end ?_
 refine s_reg (g_run 1 ?_)
 refine prg_head (v' := i64 (x : Nat)) (by unfold i64; congr 2; omega) ?_
 refine g_end ?_
 refine s_loop (ι := List Bool × List Nat × List (Nat × Nat)) (fun i => Dfs (x + 1) x rows i.1 i.2.1 i.2.2) (fun i => left rows B i.1 i.2.2) (fun i => oT (x + 1) (.frz 1 (x + 1) (x + 1) fun i => [encI (rowsI i)]) i.2.1 i.2.2) (fun i => oH (x + 1) i.1 i.2.1 i.2.2) ((List.replicate (x + 1) false).set x true, [], [(x, 0)]) (dfs_init (by omega)) (σ := [some 0, none, some 1]) (wk _ [] _ _ (blks := .cons (bs_vec rfl fun j hj => ?_) (.cons (.nil rfl) (.cons (.vec rfl (by simp) rfl (Nat.le_refl _) (fun h => nomatch h) fun j hj => ?_) .nil)))) ?_
 ·have := row1_set (en := fun b => .s (.bool b)) (d := false) (xs := List.replicate (x + 1) false) (c := x) (x := true) (.s (.bool true)) rfl (i := j) (by simpa using hj)
  rw [rowB_eq, ← this]
  by_cases e : j = x
  ·rw [if_pos e, if_pos e, ← rowB_eq]
   congr 1
   exact rowB_rep (x + 1) j
  ·rw [if_neg e, if_neg e, ← rowB_eq]
   exact rowB_rep (x + 1) j
 ·have : j = 0 := by simpa using hj
  subst this; rfl
 rintro ⟨seen, out, st⟩ hD
 simp only at hD
 have hlen := hD.len
 have hol : out.length ≤ x + 1 ∧ st.length ≤ x + 1 := by
  have h1 := hD.nd
  have h2 := nodup_lt h1 hD.lt
  simp only [List.length_append, List.length_map] at h2
  omega
 unfold oT oH
 refine s_ass (s_run ?_)
 refine s_cond (fun h1 => ?_) (fun h1 => ?_)
 ·simp only [gt_iff_lt, decide_eq_true_eq] at h1
  rcases snoc_cases st with e | ⟨s, ⟨a, k⟩, rfl⟩
  ·subst e; simp at h1
  have han : a < x + 1 := hD.lt a (by simp)
  have hsl : (s ++ [(a, k)]).length = s.length + 1 := by simp
  obtain ⟨hkl, _⟩ := hD.scl a k (by simp)
  have hkB := hB a han
  have hra := hI a han
  have hrl : (rowsI a).length = (rows a).length := by rw [hra, natI_len]
  rw [hsl]
  refine s_skip (p_block ?_)
  refine s_reg (g_run 2 ?_)
  refine prg_head (v' := i64 (s.length : Nat)) (by unfold i64; congr 2; omega) ?_
  refine g_end ?_
  refine s_ass (s_drw (g_run 6 ?_))
  rw [snoc_at]
  refine g_end ?_
  rw [hrl]
  refine s_cond (fun h2 => ?_) (fun h2 => ?_)
  ·simp only [beq_iff_eq] at h2
   have hk : k = (rows a).length := by omega
   refine s_ass (s_reg (g_run 3 ?_))
   rw [snoc_at]
   refine g_end ?_ (hq := by simp only [room, true_and, and_true]; omega)
   refine s_ass (s_reg (g_run 2 ?_))
   refine prg_head (v' := i64 (s.length : Nat)) (by unfold i64; congr 2; omega) ?_
   refine g_end ?_
   refine s_exit ?_
   refine lp_next (seen, out ++ [a], s) (dfs_pop hD hk) (wk [some 0, some 4, some 2] [] _ _ (vals := ?_) (blks := ?_)) left_pop
   ·dsimp only
    rw [show (out ++ [a]).length = out.length + 1 by simp]
    repeat' (first | exact VSubs.nil | apply VSubs.cons | exact VSub.one (VSub1.junk _) | exact VSub.nlv rfl | exact VSub.one (VSub1.vec rfl rfl))
   ·refine .cons bs_same (.cons (bs_vec (n := out.length + 1) (by simp) fun j hj => ?_) (.cons (.vec rfl (by simp) rfl (by simp) (fun h => nomatch h) fun j hj => rowP_snoc hj) .nil))
    rw [natI_snoc]
    have := row1_push (en := i64) (d := 0) (x := ((a : Nat) : Int)) (xs := natI out) (i := j) (by rw [natI_len]; simpa using hj)
    rw [natI_len] at this
    exact this
  ·simp only [beq_eq_false_iff_ne, ne_eq] at h2
   have hk : k < (rows a).length := by omega
   obtain ⟨c, hc⟩ : ∃ c, (rows a).getD k 0 = c := ⟨_, rfl⟩
   have hcm : c ∈ rows a := by
    rw [← hc, List.getD_eq_getElem?_getD, List.getElem?_eq_getElem hk]
    exact List.getElem_mem hk
   have hcn := hr a han c hcm
   have hci : (rowsI a).getD k 0 = (c : Nat) := by rw [hra, natI_at hk, hc]
   refine s_skip ?_
   refine s_drw (g_run 3 ?_)
   rw [snoc_at]
   refine g_run 5 ?_
   rw [snoc_at]
   refine g_run 1 ?_ (hq := by simp only [in64, and_true, true_and]; rw [hrl]; omega)
   refine g_run 1 ?_
   rw [hci]
   refine g_end ?_
   refine s_reg (g_run 3 ?_)
   rw [snoc_at]
   refine g_run 1 ?_
   refine prg_head (v' := i64 (k + 1 : Nat)) rfl ?_
   refine g_end ?_
   refine s_run ?_
   cases hs : seen.getD c false with
   | true =>
     refine e_f ?_
     refine p_skip ?_
     refine lp_next (seen, out, s ++ [(a, k + 1)]) (dfs_next hD hk (by rw [hc]; exact hs)) (wk [some 0, some 1, some 2] [] _ _ (vals := ?_) (blks := ?_)) (left_next hk)
     ·dsimp only
      rw [show (s ++ [(a, k + 1)]).length = s.length + 1 by simp]
      repeat' (first | exact VSubs.nil | apply VSubs.cons | exact VSub.one (VSub1.junk _) | exact VSub.nlv rfl | exact VSub.one (VSub1.vec rfl rfl))
     ·exact .cons bs_same (.cons bs_same (.cons (.vec rfl (by simp) rfl (by simp) (fun h => nomatch h) fun j hj => rowP_next (by simpa using hj)) .nil))
   | false =>
     refine e_t ?_
     refine s_run ?_
     refine e_run ?_ (hq := by simp only [room, true_and, and_true]; omega)
     refine lp_next (seen.set c true, out, s ++ [(a, k + 1), (c, 0)]) (dfs_push hD hk hc hcn hs) (wk [some 0, some 1, some 4] [] _ _ (vals := ?_) (blks := ?_)) (left_push hk (by omega) hs (hB c hcn))
     ·dsimp only
      rw [show (s ++ [(a, k + 1), (c, 0)]).length = s.length + 1 + 1 by simp]
      repeat' (first | exact VSubs.nil | apply VSubs.cons | exact VSub.one (VSub1.junk _) | exact VSub.nlv rfl | exact VSub.one (VSub1.vec rfl rfl))
     ·refine .cons (bs_vec rfl fun j hj => row1_set (en := fun b => .s (.bool b)) (d := false) (.s (.bool true)) rfl (by omega)) (.cons bs_same (.cons (.vec rfl (by simp) rfl (by simp) (fun h => nomatch h) fun j hj => ?_) .nil))
      have hj' : j < s.length + 1 + 1 := by simpa using hj
      have e2 : s ++ [(a, k + 1), (c, 0)] = (s ++ [(a, k + 1)]) ++ [(c, 0)] := by simp
      by_cases q : j < s.length + 1
      ·rw [if_pos q, e2, rowP_snoc (by simpa using q)]
       exact rowP_next q
      ·have : j = (s ++ [(a, k + 1)]).length := by simp; omega
       rw [if_neg q, e2]
       subst this
       unfold rowP
       rw [snoc_at]
       simp
       exact ⟨rfl, rfl⟩
 ·simp only [gt_iff_lt, decide_eq_false_iff_not] at h1
  have : st = [] := List.eq_nil_of_length_eq_zero (by omega)
  subst this
  refine s_exit ?_
  refine s_reg ?_
  refine prg_scall [1] [] (args' := [.vec 1 0 out.length]) (hpc := [.vec 1 out.length (fun j => [i64 ((natI out).getD j 0)]) true]) rfl rfl rfl (wk _ [] _ _) rfl (reverse_ok out.length (fun j => (natI out).getD j 0) (by omega)) ?_
  rintro v hpc' ⟨rfl, rfl⟩
  refine ⟨rfl, rfl, Nat.le_refl _, ?_⟩
  refine g_end ?_
  refine s_run ?_
  refine p_ret ?_
  refine fin_z [1] ⟨_, dfs_done hr hD, rfl⟩ ?_
  rintro v rfl
  have hl : (natI out.reverse).length = out.length := by simp [natI]
  refine .one ?_
  unfold encI
  rw [hl]
  refine .vecf (.head _) rfl rfl (Nat.le_refl _) (Nat.le_refl _) fun i hi => ?_
  show [i64 ((natI out).getD (out.length - 1 - i) 0)] = rowI .i64 (natI out.reverse) i
  unfold rowI
  rw [natI_at (show out.length - 1 - i < out.length by omega), natI_at (show i < out.reverse.length by simpa using hi)]
  simp only [List.getD_eq_getElem?_getD, List.getElem?_reverse hi]
  rfl
end Go.Proofs.Ytggaimcopbjdiaa.Graph
