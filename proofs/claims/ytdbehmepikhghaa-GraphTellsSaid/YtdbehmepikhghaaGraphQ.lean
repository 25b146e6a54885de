/- What the law on ways rests on. -/
import Derived.Test.YtdbehmepikhghaaGraphP
set_option linter.unusedVariables false
set_option linter.unusedSimpArgs false
set_option maxRecDepth 10000
namespace Go.Proofs.Ytdbehmepikhghaa.Graph
open Go.Proofs.Ytdbehmepikhghaa.AM
theorem way_dual {code : List (Int × Int)} {a : Nat} {b : Int} : b ∈ nextI code (a : Nat) ↔ ((a : Nat) : Int) ∈ aheadI code b := by
  unfold aheadI aheadN
  constructor
  · intro h
    have ha : a < code.length := by
      unfold nextI at h
      split at h
      · omega
      · cases h
    exact List.mem_map.2 ⟨a, List.mem_filter.2 ⟨List.mem_range.2 ha, by simpa using h⟩, rfl⟩
  · intro h
    obtain ⟨k, h1, h2⟩ := List.mem_map.1 h
    have : k = a := by omega
    subst this
    simpa using (List.mem_filter.1 h1).2
theorem reach_at {code : List (Int × Int)} {s : Int} {b : Nat} (hb : b < code.length + 1) : (reachL code s).getD b false = true ↔ 0 ≤ s ∧ s < ((code.length + 1 : Nat) : Int) ∧ WayG (fun a => nextI code (a : Nat)) s.toNat b := reachG_at hb
theorem reach_closed {code : List (Int × Int)} {s : Int} {a : Nat} {c : Int} (ha : a < code.length + 1) (h : (reachL code s).getD a false = true) (hc : c ∈ nextI code (a : Nat)) : ∃ k : Nat, c = k ∧ k < code.length + 1 ∧ (reachL code s).getD k false = true := by
  obtain ⟨k, rfl, hk⟩ := next_lt hc
  obtain ⟨h1, h2, h3⟩ := (reach_at ha).1 h
  exact ⟨k, rfl, hk, (reach_at hk).2 ⟨h1, h2, .step h3 hc⟩⟩
theorem reach_came {code : List (Int × Int)} {s : Int} {a : Nat} (ha : a < code.length + 1) (h : (reachL code s).getD a false = true) : ((a : Nat) : Int) = s ∨ ∃ k : Nat, ((k : Nat) : Int) ∈ aheadI code (a : Nat) ∧ (reachL code s).getD k false = true := by
  obtain ⟨h1, h2, h3⟩ := (reach_at ha).1 h
  cases h3 with
  | refl => left; omega
  | @step b _ h hc =>
    right
    have hb : b < code.length + 1 := by
      have hc' : ((a : Nat) : Int) ∈ nextI code (b : Nat) := hc
      unfold nextI at hc'
      split at hc'
      · omega
      · cases hc'
    exact ⟨b, way_dual.1 hc, (reach_at hb).2 ⟨h1, h2, h⟩⟩
theorem reach_self {code : List (Int × Int)} {s : Int} (h1 : 0 ≤ s) (h2 : s ≤ (code.length : Nat)) : (reachL code s).getD s.toNat false = true := (reach_at (by omega)).2 ⟨h1, by omega, .refl⟩
theorem WayG.head {nx : Nat → List Int} {a b c : Nat} (h : (b : Int) ∈ nx a) (w : WayG nx b c) : WayG nx a c := by
  induction w with
  | refl => exact .step .refl h
  | step _ hc ih => exact .step ih hc
theorem way_rev {nx ah : Nat → List Int} (hd : ∀ a b : Nat, (b : Int) ∈ nx a → (a : Int) ∈ ah b) {a b : Nat} (w : WayG nx a b) : WayG ah b a := by
  induction w with
  | refl => exact .refl
  | step _ hc ih => exact WayG.head (hd _ _ hc) ih
theorem exit_rev {code : List (Int × Int)} {a : Nat} (ha : a < code.length + 1) : (exitB code).getD a false = (reachL code (a : Nat)).getD code.length false := by
  rw [Bool.eq_iff_iff, reach_at (by omega)]
  unfold exitB
  rw [reachG_at ha, Int.toNat_natCast, Int.toNat_natCast]
  constructor
  · rintro ⟨_, _, w⟩
    exact ⟨by omega, by omega, way_rev (fun a b h => way_dual.2 h) w⟩
  · rintro ⟨_, _, w⟩
    exact ⟨by omega, by omega, way_rev (fun a b h => way_dual.1 h) w⟩
/-- What Exit tells. -/
theorem exit_tells (code : List (Int × Int)) : ∃ (x : Int) (ok : Bool), exitW code = .tup [i64 x, .s (.bool ok)] ∧ (∀ a : Nat, a < code.length → (∀ j : Nat, j < a → (reachL code (j : Nat)).getD code.length false = true) → (reachL code (a : Nat)).getD code.length false = false → ok = true ∧ x = a) ∧
    ((∀ j : Nat, j < code.length → (reachL code (j : Nat)).getD code.length false = true) → ok = false ∧ x = 0) := by
  have hlen : (exitB code).length = code.length + 1 := reachG_len _ _ _
  unfold exitW
  by_cases hm : false ∈ exitB code
  · refine ⟨_, _, if_pos hm, fun a ha hj h => ⟨rfl, ?_⟩, fun h => ?_⟩
    · rw [← exit_rev (by omega)] at h
      have h1 : (exitB code).idxOf false ≤ a := by
        rcases Nat.lt_or_ge a ((exitB code).idxOf false) with q | q
        · exfalso
          have hne := List.not_of_lt_findIdx (p := (· == false)) (xs := exitB code) (i := a) (by simpa [List.idxOf] using q)
          rw [List.getD_eq_getElem?_getD, List.getElem?_eq_getElem (by omega)] at h
          simp at h hne
          rw [h] at hne
          cases hne
        · exact q
      have h2 : ¬ (exitB code).idxOf false < a := fun q => by
        have := hj _ q
        rw [← exit_rev (by omega)] at this
        have hl := List.idxOf_lt_length_iff.2 hm
        rw [List.getD_eq_getElem?_getD, List.getElem?_eq_getElem hl, List.getElem_idxOf hl] at this
        simp at this
      have : (exitB code).idxOf false = a := by omega
      rw [this]
    · exfalso
      obtain ⟨i, hi, e⟩ := List.mem_iff_getElem.1 hm
      have e' : (exitB code).getD i false = false := by rw [List.getD_eq_getElem?_getD, List.getElem?_eq_getElem hi, e]; rfl
      rw [exit_rev (by omega)] at e'
      by_cases hin : i < code.length
      · rw [h i hin] at e'; cases e'
      · have : i = code.length := by omega
        subst this
        have := reach_self (code := code) (s := (code.length : Nat)) (by omega) (Int.le_refl _)
        rw [Int.toNat_natCast] at this
        rw [this] at e'; cases e'
  · refine ⟨_, _, if_neg hm, fun a ha hj h => ?_, fun _ => ⟨rfl, rfl⟩⟩
    exfalso
    rw [← exit_rev (by omega)] at h
    refine hm ?_
    rw [List.getD_eq_getElem?_getD, List.getElem?_eq_getElem (by omega)] at h
    have h' : (exitB code)[a]'(by omega) = false := by simpa using h
    rw [← h']
    exact List.getElem_mem _
end Go.Proofs.Ytdbehmepikhghaa.Graph
