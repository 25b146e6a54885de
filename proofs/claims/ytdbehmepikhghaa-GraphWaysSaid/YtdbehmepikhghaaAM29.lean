/- Rows that are handed in: they lie in a heap of rows that are read alone. -/
import Derived.Test.YtdbehmepikhghaaAM28
import Derived.WalkKit
import Derived.ProofKit
import Derived.ChangeSlices
set_option linter.unusedVariables false
set_option linter.unusedSimpArgs false
namespace Go.Proofs.Ytdbehmepikhghaa.AM
section
variable {V : Type → Type} [Vec V] {P : Program} {W : World} {ρ : Rho} {H : AH V}
/-- A slice of whole numbers as it lies in the model's memory. -/
def Conc (k : IntKind) (W : World) (v : Value) (zs : List Int) : Prop :=
  (v = .slice none 0 0 ∧ zs = []) ∨ ∃ cb co cap c e fr, v = .slice (some ⟨cb, co, none⟩) zs.length cap ∧ zs.length ≤ cap ∧ W.heap[cb]? = some (.cells c e fr) ∧ ∀ i, i < zs.length → c[co + i]? = some (.int k (zs.getD i 0))
def ReadOnly (H : AH V) : Prop := ∀ b B, Vec.get H b = some B → ∃ cs, B = .arr cs false 0
theorem readOnly_emp : ReadOnly (Vec.emp : AH V) := fun b B h => by rw [Vec.get_emp] at h; cases h
theorem getD_at {zs : List Int} {i : Nat} {k : IntKind} {v : Value} (h : (zs.map (Value.int k))[i]? = some v) : i < zs.length ∧ v = .int k (zs.getD i 0) := by
  rw [List.getElem?_map] at h
  cases hq : zs[i]? with
  | none => rw [hq] at h; cases h
  | some z =>
    rw [hq] at h
    have hi := (List.getElem?_eq_some_iff.1 hq).1
    simp only [Option.map_some, Option.some.injEq] at h
    refine ⟨hi, ?_⟩
    rw [← h, List.getD_eq_getElem?_getD, hq]; rfl
theorem place_row {k : IntKind} {v' : Value} {zs : List Int} (hro : ReadOnly H) (hn : Now P (allOf W) W ρ H W) (hc : Conc k W v' zs) :
    ∃ (H' : AH V) (ρ' : Rho) (v : Value), Keeps H H' ∧ ReadOnly H' ∧ ρ.le ρ' ∧ Now P (allOf W) W ρ' H' W ∧ VRel ρ' v v' ∧ RowOf H' v (zs.map (Value.int k)) := by
  rcases hc with ⟨rfl, rfl⟩ | ⟨cb, co, cap, c, e, fr, rfl, hcap, hw, hcell⟩
  · exact ⟨H, ρ, .slice none 0 0, .refl _, hro, Rho.le.refl _, hn, .flat rfl, .inl ⟨.inl rfl, rfl⟩⟩
  · have hfree := hn.fresh
    let co0 := if zs.length = 0 then 0 else co
    have hB : ∀ ρ2 : Rho, BRel P (allOf W) ρ2 W (cb, co0) (.arr (zs.map (Value.int k)) false 0) := fun ρ2 => by
      refine ⟨c, e, fr, hw, ?_, fun i v hv => ?_, fun h => by cases h⟩
      · rw [List.length_map]
        by_cases h0 : zs.length = 0
        · simp [co0, h0]
        · have h1 := (Array.getElem?_eq_some_iff.1 (hcell (zs.length - 1) (by omega))).1
          simp only [co0, if_neg h0]; omega
      · obtain ⟨hi, rfl⟩ := getD_at hv
        have h0 : ¬ zs.length = 0 := by omega
        refine ⟨_, ?_, .flat rfl⟩
        simp only [co0, if_neg h0]
        exact hcell i hi
    have hlt : cb < W.heap.size := (Array.getElem?_eq_some_iff.1 hw).1
    have hview : ∀ b, b ≠ Vec.size H → view (Vec.push H (.arr (zs.map (Value.int k)) false 0)) b = view H b := fun b hb => by rw [view_push]; exact setB_ne _ _ hb
    have hsame : view (Vec.push H (.arr (zs.map (Value.int k)) false 0)) (Vec.size H) = .arr (zs.map (Value.int k)) false 0 := by rw [view_push]; exact setB_same _ _ _
    have hvro : ∀ b, view H b = .dead ∨ ∃ cs, view H b = .arr cs false 0 := fun b => by
      unfold view
      cases hq : Vec.get H b with
      | none => exact .inl rfl
      | some B => obtain ⟨cs, rfl⟩ := hro b B hq; exact .inr ⟨cs, rfl⟩
    refine ⟨Vec.push H (.arr (zs.map (Value.int k)) false 0), ρ.upd (Vec.size H) (cb, co0) none, .slice (some ⟨Vec.size H, 0, none⟩) zs.length (2 * zs.length + 0), ⟨by rw [Vec.size_push]; omega, fun j hj => by rw [Vec.get_push, if_neg (by omega)]⟩, ?_, Rho.le_upd _ _ hfree, ⟨⟨hn.st.os, hn.st.tape, hn.st.output, hn.st.size, hn.st.frame, ?_, ?_, ?_, ?_⟩, ?_⟩, ?_, ?_⟩
    · intro b B hb
      rw [Vec.get_push] at hb
      split at hb
      · cases hb; exact ⟨_, rfl⟩
      · exact hro b B hb
    · intro b p hb
      by_cases e : b = Vec.size H
      · subst e; rw [Rho.upd_same] at hb; cases hb; exact hlt
      · rw [Rho.upd_ne ρ _ _ e] at hb; exact hn.st.dom b p hb
    · intro b p hb
      by_cases e : b = Vec.size H
      · subst e; rw [Rho.upd_same] at hb; cases hb
        rw [hsame]; exact hB _
      · rw [Rho.upd_ne ρ _ _ e] at hb
        rw [hview b e]
        exact (hn.st.blk b p hb).mono (Rho.le_upd _ _ hfree)
    · intro b b' p p' _ _ _ _
      have : view (Vec.push H (.arr (zs.map (Value.int k)) false 0)) b = .dead ∨ ∃ cs, view (Vec.push H (.arr (zs.map (Value.int k)) false 0)) b = .arr cs false 0 := by
        by_cases e : b = Vec.size H
        · subst e; exact .inr ⟨_, hsame⟩
        · rw [hview b e]; exact hvro b
      rcases this with h | ⟨cs, h⟩ <;> rw [h] <;> trivial
    · intro b p cs' lo hb hv
      have : view (Vec.push H (.arr (zs.map (Value.int k)) false 0)) b = .dead ∨ ∃ cs, view (Vec.push H (.arr (zs.map (Value.int k)) false 0)) b = .arr cs false 0 := by
        by_cases e : b = Vec.size H
        · subst e; exact .inr ⟨_, hsame⟩
        · rw [hview b e]; exact hvro b
      rcases this with h | ⟨cs, h⟩ <;> rw [h] at hv <;> cases hv
    · intro b p hb
      rw [Vec.size_push]
      by_cases e : b = Vec.size H
      · omega
      · rw [Rho.upd_ne ρ _ _ e] at hb
        have := hn.dom b p hb
        omega
    · by_cases h0 : zs.length = 0
      · rw [h0]
        exact .slz (Rho.upd_same _ _ _ _) (by omega) (fun h => by omega)
      · have hco : co0 = co := if_neg h0
        have := VRel.sl (ρ := ρ.upd (Vec.size H) (cb, co0) none) (b := Vec.size H) (o := 0) (cb := cb) (co := co0) (n := zs.length) (c := zs.length) (c' := cap) (e := 0) (Rho.upd_same _ _ _ _) hcap (by omega) (fun h => by omega) (fun _ _ L sz hL => by rw [Rho.lim_same] at hL; cases hL)
        rw [hco, Nat.add_zero co] at this
        rw [hco]
        exact this
    · refine .inr ⟨Vec.size H, 0, _, _, _, _, by rw [List.length_map], by rw [Vec.get_push, if_pos rfl], by simp, by simp [List.take_of_length_le]⟩
/-- What a slice of whole numbers that is handed in holds. -/
theorem conc_of {A : Type} {enc : TypeId × Value → A} {r : Reach} {base fuel : Nat} {t e : TypeId} {k : IntKind} {v : Value} {y : DataW A × List MemPlace} (ht : P.underlying t = some (.slice e)) (he : P.underlying e = some (.int k)) (h1 : P.cellsOf e = 1)
    (hok : Cell.okWide P W r base t v) (h : DataW.trod enc P W 0 (fun _ => true) true fuel t [v] = some y) :
    ∃ zs, Conc k W v zs ∧ (∀ n ∈ zs, (Lit.int k n).wf = true) ∧ ∀ B, (∀ m ∈ y.1.weights P t, m ≤ B) → zs.length * P.bytesOf e ≤ B := by
  rcases ChangeShapes.open_ints ht he h1 h with ⟨hcs, _⟩ | ⟨a, len, cap, zs, hcs, _, hl, hm, hz, hy, hcell, hwz⟩
  · simp only [List.cons.injEq, and_true] at hcs
    exact ⟨[], .inl ⟨hcs, rfl⟩, by simp, fun B _ => by simp⟩
  · simp only [List.cons.injEq, and_true] at hcs
    subst hcs
    simp only [if_true] at hz
    have hok' : len ≤ cap ∧ (cap : Int) ≤ IntKind.i64.max ∧ W.has P r base a e cap := by
      unfold Cell.okWide at hok
      rw [ht] at hok
      unfold Cell.ok at hok
      rw [ht] at hok
      exact hok
    obtain ⟨_, _, _, hspot, row, cells, hshape, _⟩ := hok'
    obtain ⟨ab, ao, asp⟩ := a
    simp only at hspot
    subst hspot
    have hheap : ∃ c el fr, W.heap[ab]? = some (.cells c el fr) := by
      unfold World.shape? at hshape
      simp only at hshape
      split at hshape
      · next c el fr q => exact ⟨c, el, fr, q⟩
      · cases hshape
    obtain ⟨c, el, fr, hq⟩ := hheap
    have htl : (zs.take len).length = len := by rw [List.length_take]; omega
    refine ⟨zs.take len, .inr ⟨ab, ao, cap, c, el, fr, by rw [htl], by rw [htl]; exact hl, hq, fun i hi => ?_⟩, fun n hn => hwz n (List.mem_of_mem_take hn), fun B hB => ?_⟩
    · rw [htl] at hi
      have := hcell i (by omega)
      rw [add_none] at this
      unfold World.cell? at this
      simp only [hq] at this
      have hg : (zs.take len).getD i 0 = zs.getD i 0 := by
        rw [List.getD_eq_getElem?_getD, List.getD_eq_getElem?_getD, List.getElem?_take, if_pos hi]
      rw [hg]
      simpa using this
    · subst hy
      have := hB ((ChangeShapes.lits k (zs.take len)).length * P.bytesOf e + (ChangeShapes.lits k (zs.drop len)).length * P.bytesOf e) (by
        simp only [DataW.weights, ht]
        rw [← Nat.add_mul]
        exact List.mem_cons_self ..)
      have hlit : (ChangeShapes.lits (H := A) k (zs.take len)).length = (zs.take len).length := by simp [ChangeShapes.lits]
      rw [hlit] at this
      omega
end
end Go.Proofs.Ytdbehmepikhghaa.AM
