/- What the check of a drawn region's order says. -/
import Derived.Test.YtdbehmepikhghaaAM15
set_option linter.unusedVariables false
set_option linter.unusedSimpArgs false
namespace Go.Proofs.Ytdbehmepikhghaa.AM

def stepA (acc : List (List Nat)) (o : Oper) : List Nat := (o.after.toList.flatMap fun e => if Region.binds .any e then e.on :: acc.getD e.on [] else []).eraseDups
theorem aheadOf_eq (ops : List Oper) : aheadOf ops = ops.foldl (fun acc o => acc ++ [stepA acc o]) [] := rfl
theorem fold_ahead : ∀ (rest pre : List Oper) (acc : List (List Nat)), acc.length = pre.length → (∀ (i : Nat) (o : Oper), pre[i]? = some o → acc[i]? = some (stepA (acc.take i) o)) →
    ∀ (i : Nat) (o : Oper), (pre ++ rest)[i]? = some o → (rest.foldl (fun acc o => acc ++ [stepA acc o]) acc)[i]? = some (stepA ((rest.foldl (fun acc o => acc ++ [stepA acc o]) acc).take i) o)
  | [], pre, acc, hl, h, i, o, hi => by simpa using h i o (by simpa using hi)
  | p :: rest, pre, acc, hl, h, i, o, hi => by
    rw [List.foldl_cons]
    refine fold_ahead rest (pre ++ [p]) (acc ++ [stepA acc p]) (by simp [hl]) (fun j q hj => ?_) i o (by simpa using hi)
    by_cases hjl : j < pre.length
    · rw [List.getElem?_append_left hjl] at hj
      rw [List.getElem?_append_left (by omega), List.take_append_of_le_length (by omega)]
      exact h j q hj
    · rw [List.getElem?_append_right (by omega)] at hj
      have hj0 : j = pre.length := by
        have := (List.getElem?_eq_some_iff.1 hj).1
        simp at this
        omega
      subst hj0
      simp at hj
      subst hj
      rw [← hl, List.getElem?_append_right (Nat.le_refl _), List.take_append_of_le_length (Nat.le_refl _), List.take_length]
      simp
theorem ahead_get {ops : List Oper} {i : Nat} {o : Oper} (h : ops[i]? = some o) : (aheadOf ops)[i]? = some (stepA ((aheadOf ops).take i) o) := by
  rw [aheadOf_eq]
  exact fold_ahead ops [] [] rfl (fun i o h => by simp at h) i o (by simpa using h)
theorem mem_stepA {acc : List (List Nat)} {o : Oper} {x : Nat} : x ∈ stepA acc o ↔ ∃ e ∈ o.after.toList, Region.binds .any e = true ∧ (x = e.on ∨ x ∈ acc.getD e.on []) := by
  unfold stepA
  rw [List.mem_eraseDups, List.mem_flatMap]
  constructor
  · rintro ⟨e, he, hx⟩
    split at hx
    · rename_i hb
      exact ⟨e, he, hb, List.mem_cons.1 hx⟩
    · cases hx
  · rintro ⟨e, he, hb, hx⟩
    exact ⟨e, he, by rw [if_pos hb]; exact List.mem_cons.2 hx⟩
theorem ahead_direct {ops : List Oper} {i : Nat} {o : Oper} (h : ops[i]? = some o) {e : Edge} (he : e ∈ o.after.toList) (hb : Region.binds .any e = true) : e.on ∈ (aheadOf ops).getD i [] := by
  rw [List.getD_eq_getElem?_getD, ahead_get h, Option.getD_some, mem_stepA]
  exact ⟨e, he, hb, .inl rfl⟩
theorem ahead_closed {ops : List Oper} (Ls : Nat → Prop) (hcl : ∀ (j : Nat) (o : Oper), ops[j]? = some o → Ls j → ∀ e ∈ o.after.toList, Region.binds .any e = true → Ls e.on) :
    ∀ (i : Nat) (o : Oper), ops[i]? = some o → (∀ e ∈ o.after.toList, Region.binds .any e = true → Ls e.on) → ∀ x ∈ (aheadOf ops).getD i [], Ls x := by
  intro i
  induction i using Nat.strongRecOn with
  | _ i ih =>
    intro o ho hd x hx
    rw [List.getD_eq_getElem?_getD, ahead_get ho, Option.getD_some, mem_stepA] at hx
    obtain ⟨e, he, hb, rfl | hx⟩ := hx
    · exact hd e he hb
    · rw [List.getD_eq_getElem?_getD, List.getElem?_take] at hx
      split at hx
      · rename_i hlt
        rw [← List.getD_eq_getElem?_getD] at hx
        have hlen : i < ops.length := (List.getElem?_eq_some_iff.1 ho).1
        have ho' : ops[e.on]? = some ops[e.on] := List.getElem?_eq_getElem (by omega)
        exact ih e.on hlt _ ho' (hcl _ _ ho' (hd e he hb)) x hx
      · simp at hx

/-- The order that was compiled. -/
structure Plan (ops : Array Oper) (eff : Nat → Prop) (ord : List Nat) : Prop where
  len : ord.length = ops.size
  lt : ∀ i ∈ ord, i < ops.size
  all : ∀ i, i < ops.size → i ∈ ord
  one : ∀ (j k : Nat), ord[k]? = some j → j ∉ ord.take k
  before : ∀ (j k : Nat), ord[k]? = some j → ∀ i ∈ (aheadOf ops.toList).getD j [], i ∈ ord.take k
  free : ∀ (j k : Nat), ord[k]? = some j → ∀ i ∈ ord.take k, i ∈ (aheadOf ops.toList).getD j [] ∨ ∃ oi oj, ops[i]? = some oi ∧ ops[j]? = some oj ∧ oi.apart ops oj = true ∧ ¬ eff j
theorem plan_of {ops : Array Oper} {effs ord : List Nat} (h : drawOk ops.toList (aheadOf ops.toList) effs ord = true) : Plan ops (· ∈ effs) ord := by
  unfold drawOk at h
  simp only [Bool.and_eq_true, beq_iff_eq, List.all_eq_true, Nat.blt_eq, List.contains_iff_mem, List.mem_range, Array.length_toList] at h
  obtain ⟨⟨⟨h1, h2⟩, h3⟩, h4⟩ := h
  have hz : ∀ (j k : Nat), ord[k]? = some j → (j, k) ∈ ord.zipIdx := fun j k hk => by
    rw [List.mem_iff_getElem?]
    exact ⟨k, by simp [hk]⟩
  refine ⟨h1, h2, h3, fun j k hk => ?_, fun j k hk i hi => ?_, fun j k hk i hi => ?_⟩
  · have := (h4 _ (hz j k hk)).1.2
    simpa using this
  · exact (h4 _ (hz j k hk)).1.1 i hi
  · have := (h4 _ (hz j k hk)).2 i hi
    simp only [Bool.or_eq_true, List.contains_iff_mem] at this
    rcases this with h5 | h5
    · exact .inl h5
    · right
      split at h5
      · rename_i oi oj hi' hj'
        simp only [Bool.and_eq_true, Bool.not_eq_true', List.contains_eq_mem, decide_eq_false_iff_not] at h5
        rw [Array.getElem?_toList] at hi' hj'
        exact ⟨oi, oj, hi', hj', h5.1, h5.2⟩
      · cases h5
theorem filterMap_get {α : Type} {f : Nat → Option α} : ∀ {ord : List Nat}, (∀ i ∈ ord, (f i).isSome = true) → ∀ k : Nat, (ord.filterMap f)[k]? = (ord[k]?).bind f
  | [], _, k => by simp
  | i :: ord, h, k => by
    obtain ⟨x, hx⟩ := Option.isSome_iff_exists.1 (h i (by simp))
    rw [List.filterMap_cons_some hx]
    cases k with
    | zero => simp [hx]
    | succ k => simpa using filterMap_get (fun j hj => h j (by simp [hj])) k
theorem Plan.pos {ops : Array Oper} {eff : Nat → Prop} {ord : List Nat} (p : Plan ops eff ord) {i : Nat} (hi : i < ops.size) : ∃ k : Nat, ord[k]? = some i := List.mem_iff_getElem?.1 (p.all i hi)
theorem mem_take {ord : List Nat} {i k : Nat} (h : i ∈ ord.take k) : ∃ j : Nat, j < k ∧ ord[j]? = some i := by
  obtain ⟨j, hj⟩ := List.mem_iff_getElem?.1 h
  have hlt : j < (ord.take k).length := (List.getElem?_eq_some_iff.1 hj).1
  rw [List.length_take] at hlt
  exact ⟨j, by omega, by rw [List.getElem?_take, if_pos (by omega)] at hj; exact hj⟩
theorem take_mem {ord : List Nat} {i j k : Nat} (h : ord[j]? = some i) (hj : j < k) : i ∈ ord.take k := List.mem_iff_getElem?.2 ⟨j, by rw [List.getElem?_take, if_pos hj]; exact h⟩
theorem Plan.inj {ops : Array Oper} {eff : Nat → Prop} {ord : List Nat} (p : Plan ops eff ord) {i j k : Nat} (hj : ord[j]? = some i) (hk : ord[k]? = some i) : j = k := by
  rcases Nat.lt_trichotomy j k with h | h | h
  · exact absurd (take_mem hj h) (p.one i k hk)
  · exact h
  · exact absurd (take_mem hk h) (p.one i j hj)
end Go.Proofs.Ytdbehmepikhghaa.AM
