/- Tables: lists of one's own in a list of one's own that grows. -/
import Derived.Test.YtggaimcopbjdiaaPN
set_option linter.unusedVariables false
set_option linter.unusedSimpArgs false
namespace Go.Proofs.Ytggaimcopbjdiaa.AM
section
variable {V : Type → Type} [Vec V] {E : Env V} {F F' F0 : Nat → Prop} {ρ ρ' ρ0 : PR} {H H' H0 : AH V} {hp hp' hp0 : PH} {ds ds' : List Nat} {T L : List PV} {Ta La : List Value} {inR : Bool} {p : List Nat} {a b c : ACode} {R : AE → List PV → PH → Prop} {st : PS} {dr : Bool} {ops : List AOper} {l0 : Nat} {Q : List PV → PH → Prop}
/-! ### Calls beside a heap that is not written out -/
/-! ### Lists of one's own -/
def ov0 : PV := .fzx 1 0 (fun _ => [])
/-- A list of one's own of which one knows that it has no more room: where it lies. -/
def OwnV (hp : PH) (v : PV) (n : Nat) (rw_ : Nat → List PV) (lo hi : Nat) : Prop := ∃ b full, v = .exv 1 b n ∧ lo ≤ b ∧ b < hi ∧ hp[b]? = some (.vec 1 n rw_ full)
theorem OwnV.keep {v : PV} {n lo hi : Nat} {r : Nat → List PV} (h : OwnV hp v n r lo hi) (hk : ∀ b, lo ≤ b → b < hi → ∀ n f full, hp[b]? = some (.vec 1 n f full) → hp'[b]? = some (.vec 1 n f full)) : OwnV hp' v n r lo hi := by
  obtain ⟨b, full, h1, h2, h3, h4⟩ := h
  exact ⟨b, full, h1, h2, h3, hk b h2 h3 _ _ _ h4⟩
theorem OwnV.app {v : PV} {n lo hi : Nat} {r : Nat → List PV} (h : OwnV hp v n r lo hi) (l : PH) : OwnV (hp ++ l) v n r lo hi := h.keep fun b h1 h2 n f full h => by
  rw [List.getElem?_append_left (List.getElem?_eq_some_iff.1 h).1]; exact h
theorem OwnV.cell {v : PV} {n lo hi : Nat} {r : Nat → List PV} (h : OwnV hp v n r lo hi) : pcs v = [v] ∧ okc v = true ∧ rok2 v = true ∧ plen (some v) = pv1 (.s (.int .i64 (n : Int))) := by
  obtain ⟨b, full, rfl, _⟩ := h
  exact ⟨rfl, rfl, rfl, rfl⟩
/-- Cells of a table: each a list of one's own, no two the same; marked where P says so. -/
def Cells (hp : PH) (hi : Nat) (cs : List PV) (len : Nat → Nat) (P : Nat → Nat → Prop) : Prop := ∃ ptr : Nat → Nat,
  (∀ r, r < cs.length → len r ≤ 1000000 ∧ ((len r = 0 ∧ cs[r]? = some ov0) ∨ (cs[r]? = some (.exv 1 (ptr r) (len r)) ∧ ptr r < hi ∧ ∃ f full, hp[ptr r]? = some (.vec 1 (len r) f full) ∧ (∀ j, j < len r → (f j).length = 1) ∧ ∀ j, j < len r → P r j → f j = [.s (.int .i64 (1000 * (r : Int) + (j : Int)))]))) ∧
  ∀ r s, r < cs.length → s < cs.length → len r ≠ 0 → len s ≠ 0 → ptr r = ptr s → r = s
theorem Cells.nil {hi : Nat} {len : Nat → Nat} {P : Nat → Nat → Prop} : Cells hp hi [] len P := ⟨fun _ => 0, fun r h => by simp at h, fun r s h => by simp at h⟩
theorem Cells.keep {hi : Nat} {cs : List PV} {len : Nat → Nat} {P : Nat → Nat → Prop} (h : Cells hp hi cs len P) (hk : ∀ b, b < hi → ∀ n f full, hp[b]? = some (.vec 1 n f full) → hp'[b]? = some (.vec 1 n f full)) : Cells hp' hi cs len P := by
  obtain ⟨ptr, h1, h2⟩ := h
  refine ⟨ptr, fun r hr => ?_, h2⟩
  obtain ⟨q1, q2⟩ := h1 r hr
  refine ⟨q1, ?_⟩
  rcases q2 with q2 | ⟨q2, q3, f, full, q4, q5⟩
  · exact .inl q2
  · exact .inr ⟨q2, q3, f, full, hk _ q3 _ _ _ q4, q5⟩
theorem Cells.app {hi : Nat} {cs : List PV} {len : Nat → Nat} {P : Nat → Nat → Prop} (h : Cells hp hi cs len P) (l : PH) : Cells (hp ++ l) hi cs len P := h.keep fun b h2 n f full h => by
  rw [List.getElem?_append_left (List.getElem?_eq_some_iff.1 h).1]; exact h
theorem Cells.up {hi hi' : Nat} {cs : List PV} {len : Nat → Nat} {P : Nat → Nat → Prop} (h : Cells hp hi cs len P) (hle : hi ≤ hi') : Cells hp hi' cs len P := by
  obtain ⟨ptr, h1, h2⟩ := h
  refine ⟨ptr, fun r hr => ?_, h2⟩
  obtain ⟨q1, q2⟩ := h1 r hr
  refine ⟨q1, ?_⟩
  rcases q2 with q2 | ⟨q2, q3, q4⟩
  · exact .inl q2
  · exact .inr ⟨q2, Nat.lt_of_lt_of_le q3 hle, q4⟩
/-- One mark more. -/
theorem Cells.mark {hi i k b : Nat} {cs : List PV} {len : Nat → Nat} {f : Nat → List PV} {full : Bool} (h : Cells hp hi cs len (fun r j => r < i ∨ r = i ∧ j < k)) (hi' : i < cs.length) (hk : k < len i) (hb : cs[i]? = some (.exv 1 b (len i))) (hf : hp[b]? = some (.vec 1 (len i) f full)) :
    Cells (hp.set b (.vec 1 (len i) (fun j => if j = k then [.s (.int .i64 (1000 * (i : Int) + (k : Int)))] else f j) full)) hi cs len (fun r j => r < i ∨ r = i ∧ j < k + 1) := by
  obtain ⟨ptr, h1, h2⟩ := h
  have hbl := (List.getElem?_eq_some_iff.1 hf).1
  have hpi : ptr i = b := by
    rcases (h1 i hi').2 with ⟨q, _⟩ | ⟨q, _⟩
    · omega
    · rw [hb] at q; cases q; rfl
  refine ⟨ptr, fun r hr => ?_, h2⟩
  obtain ⟨q1, q2⟩ := h1 r hr
  refine ⟨q1, ?_⟩
  rcases q2 with q2 | ⟨q2, q3, f', full', q4, q6, q5⟩
  · exact .inl q2
  · by_cases e : r = i
    · subst e
      rw [hpi] at q4 ⊢
      rw [hf] at q4; cases q4
      rw [hpi] at q3
      refine .inr ⟨by rw [hb], q3, _, _, List.getElem?_set_self hbl, fun j hj => ?_, fun j hj hP => ?_⟩
      · show (if j = k then _ else f j).length = 1
        by_cases ej : j = k
        · rw [if_pos ej]; rfl
        · rw [if_neg ej]; exact q6 j hj
      show (if j = k then _ else f j) = _
      by_cases ej : j = k
      · subst ej; rw [if_pos rfl]
      · rw [if_neg ej]
        refine q5 j hj ?_
        rcases hP with hP | ⟨_, hP⟩
        · exact absurd hP (Nat.lt_irrefl _)
        · exact .inr ⟨rfl, by omega⟩
    · by_cases h0 : len r = 0
      · rw [h0] at q2 ⊢
        have hpb : ∃ f2 full2, (hp.set b (.vec 1 (len i) (fun j => if j = k then [.s (.int .i64 (1000 * (i : Int) + (k : Int)))] else f j) full))[ptr r]? = some (.vec 1 0 f2 full2) := by
          by_cases e2 : b = ptr r
          · rw [← e2, hf] at q4
            simp only [Option.some.injEq, PB.vec.injEq] at q4
            omega
          · rw [List.getElem?_set_ne e2, q4, h0]
            exact ⟨_, _, rfl⟩
        obtain ⟨f2, full2, hpb⟩ := hpb
        exact .inr ⟨q2, q3, f2, full2, hpb, fun j hj => absurd hj (Nat.not_lt_zero _), fun j hj => absurd hj (Nat.not_lt_zero _)⟩
      · have e2 : b ≠ ptr r := fun e2 => e (h2 r i hr hi' h0 (by omega) (by rw [hpi, e2]))
        refine .inr ⟨q2, q3, f', full', by rw [List.getElem?_set_ne e2]; exact q4, q6, fun j hj hP => q5 j hj ?_⟩
        rcases hP with hP | ⟨hP, _⟩
        · exact .inl hP
        · exact absurd hP e
end
end Go.Proofs.Ytggaimcopbjdiaa.AM
