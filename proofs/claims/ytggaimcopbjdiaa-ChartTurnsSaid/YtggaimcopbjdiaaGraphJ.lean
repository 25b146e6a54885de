/- All edges, one by one. -/
import Derived.Test.YtggaimcopbjdiaaGraphI
set_option linter.unusedVariables false
set_option linter.unusedSimpArgs false
set_option maxRecDepth 10000
namespace Go.Proofs.Ytggaimcopbjdiaa.Graph
open Go.Proofs.Ytggaimcopbjdiaa.AM
/-- The edges of the addresses below one. -/
def edgesN (code : List (Int × Int)) (k : Nat) : List (Int × Int) := (List.range k).flatMap fun a => (nextL code a).map fun b => ((a : Int), b)
def edgesL (code : List (Int × Int)) : List (Int × Int) := edgesN code code.length
theorem edgesN_succ (code : List (Int × Int)) (k : Nat) : edgesN code (k + 1) = edgesN code k ++ (nextL code k).map fun b => ((k : Int), b) := by
  simp [edgesN, List.range_succ]
theorem edgesN_pre {code : List (Int × Int)} {k n : Nat} (h : k ≤ n) : ∃ t, edgesN code n = edgesN code k ++ t := by
  induction n with
  | zero => have : k = 0 := by omega
            subst this; exact ⟨[], by simp⟩
  | succ n ih =>
    by_cases e : k = n + 1
    · subst e; exact ⟨[], by simp⟩
    · obtain ⟨t, ht⟩ := ih (by omega)
      exact ⟨_, by rw [edgesN_succ, ht, List.append_assoc]⟩
theorem edgesL_at {code : List (Int × Int)} {a i : Nat} (ha : a < code.length) (hi : i < (nextL code a).length) : (edgesL code)[(edgesN code a).length + i]? = some ((a : Int), (nextL code a).getD i 0) := by
  obtain ⟨t, ht⟩ := edgesN_pre (code := code) (show a + 1 ≤ code.length by omega)
  unfold edgesL
  rw [ht, edgesN_succ, List.append_assoc, List.getElem?_append_right (by omega), Nat.add_sub_cancel_left, List.getElem?_append_left (by simpa using hi), List.getElem?_map, List.getElem?_eq_getElem hi, getD_at hi]
  rfl
theorem edges1_ok {code : List (Int × Int)} (hf : Fit code) {b : Nat} (K : List Nat) {S : Nat → PH → Prop} {S' : PH → Prop} (hround : ∀ k hp x y, (edgesL code)[k]? = some (x, y) → S k hp → PRound E (b :: K) b [i64 x, i64 y] hp fun t hp' => (t = true ∧ S (k + 1) hp') ∨ (t = false ∧ S' hp')) {hp0 : PH} (h0 : S 0 hp0) :
    PCall E (b :: K) 64 [.yld b, .fptr 1 1 (fun _ => [encC code]) 0 0] hp0 fun _ hp' => S (edgesL code).length hp' ∨ S' hp' := by
  have f1 := hf.len
  have hKK : (b :: K).all (fun c => (b :: K).contains c) = true := List.all_eq_true.2 fun c hc => by simpa using hc
  refine p_call (fun _ _ => rfl) rfl ?_
  show PTri E false (b :: K) _ [.yld b, .fptr 1 1 (fun _ => [encC code]) 0 0, .junk, .junk, .junk, .junk, .junk, .junk, .junk, .junk, .junk, .junk, .junk, .junk] _ _
  refine s_pure ?_
  refine e_loopA (fun a hp => a ≤ code.length ∧ S (edgesN code a).length hp) (fun a => code.length - a) (fun a => [.yld b, .fptr 1 1 (fun _ => [encC code]) 0 0, .junk, .junk, .junk, .junk, i64 (code.length : Nat), i64 (a : Nat), .junk, .junk, .junk, .junk, .junk, .junk]) 0 ⟨Nat.zero_le _, h0⟩ (.same _ (.same _ (.junk _ (.junk _ (.junk _ (.junk _ (.same _ (.same _ (.junk _ (.junk _ (.junk _ (.junk _ (.junk _ (.junk _ .nil)))))))))))))) ?_
  rintro a hp ⟨ha, hS⟩
  refine s_pure ?_
  refine s_cond (fun h => ?_) (fun h => ?_)
  · simp only [decide_eq_true_eq] at h
    have hal : a < code.length := by omega
    refine s_skip (s_block (s_pure ?_))
    refine s_reg (g_pure 1 fun O1 => ?_)
    refine g_call (to_ok hf hal) ?_
    rintro v ⟨x, y, rfl, hxy⟩
    refine ⟨rfl, ?_⟩
    refine g_pure 2 fun O2 => ?_
    refine g_fbox (v := .agg [i64 x, i64 y]) 1 2 0 0 (fun i => ([i64 x, i64 y].drop (i * 1)).take 1) (by omega) rfl (by simp [pcs]) (fun i hi => rfl) fun O3 => ?_
    refine g_fin ?_
    have hl2 := nextL_len code a
    have htwo := two_rows hxy rfl
    refine s_pure ?_
    refine e_loopA (fun i hp => i ≤ (nextL code a).length ∧ S ((edgesN code a).length + i) hp) (fun i => (nextL code a).length - i) (fun i => [.yld b, .fptr 1 1 (fun _ => [encC code]) 0 0, i64 (a : Nat), .junk, .junk, .junk, i64 (code.length : Nat), i64 (a : Nat), .junk, encI (nextL code a), i64 ((nextL code a).length : Nat), i64 (i : Nat), .junk, .junk]) 0 ⟨Nat.zero_le _, hS⟩ (.same _ (.same _ (.same _ (.junk _ (.junk _ (.junk _ (.same _ (.same _ (.junk _ (.frz rfl (Nat.le_refl _) hl2 htwo (.same _ (.same _ (.junk _ (.junk _ .nil)))))))))))))) ?_
    rintro i hp ⟨hi, hS⟩
    refine s_pure ?_
    refine s_cond (fun h => ?_) (fun h => ?_)
    · simp only [decide_eq_true_eq] at h
      have hil : i < (nextL code a).length := by omega
      refine s_skip (s_block (s_pure ?_))
      refine s_reg ?_
      refine prg_yield (b :: K) (hround _ _ _ _ (edgesL_at hal hil) hS) ?_ (hT := by simp [refsOk, refs1, nlb, i64, encI]) (hL := rfl) (hpK := hKK)
      rintro t hp' hq
      refine g_pure 1 fun O1 => ?_
      refine g_fin ?_
      rcases hq with ⟨rfl, hS1⟩ | ⟨rfl, hS1⟩
      · refine e_f ?_
        refine p_skip (e_pure ?_)
        exact ⟨i + 1, ⟨by omega, hS1⟩, by dsimp only; omega, .same _ (.same _ (.same _ (.junk _ (.junk _ (.junk _ (.same _ (.same _ (.junk _ (.same _ (.same _ (.same _ (.junk _ (.junk _ .nil)))))))))))))⟩
      · refine e_t ?_
        refine p_ret ?_
        refine fin (R := fun _ hp' => S (edgesL code).length hp' ∨ S' hp') (res := ChartAwake.c64.res) ?_
        exact .inr hS1
    · simp only [decide_eq_false_iff_not] at h
      have hi' : i = (nextL code a).length := by omega
      subst hi'
      refine s_exit ?_
      refine e_pure ?_
      refine ⟨a + 1, ⟨by omega, ?_⟩, by dsimp only; omega, ?_⟩
      · have : (edgesN code (a + 1)).length = (edgesN code a).length + (nextL code a).length := by rw [edgesN_succ]; simp
        rw [this]; exact hS
      · exact .same _ (.same _ (.junk _ (.junk _ (.junk _ (.junk _ (.same _ (.same _ (.junk _ (.junk _ (.junk _ (.junk _ (.junk _ (.junk _ .nil)))))))))))))
  · simp only [decide_eq_false_iff_not] at h
    have : a = code.length := by omega
    subst this
    refine s_exit ?_
    refine fin (R := fun _ hp' => S (edgesL code).length hp' ∨ S' hp') (res := ChartAwake.c64.res) ?_
    exact .inl hS
end Go.Proofs.Ytggaimcopbjdiaa.Graph
