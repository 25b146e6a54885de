import Derived.Test.YtggaimcopbjdiaaPostTree
set_option linter.unusedVariables false
set_option linter.unusedSimpArgs false
set_option maxRecDepth 10000
namespace Go.Proofs.Ytggaimcopbjdiaa.Graph
open Go.Proofs.Ytggaimcopbjdiaa.AM Go.Proofs.Ytggaimcopbjdiaa.Post
section
variable {code : List (Int × Int)} {nr nr' : Nat → Option Nat}
theorem ch_up {x : Nat} {nr : Nat → Option Nat} {a b q : Nat} (hne : a ≠ x) (h : nr a = some b) (hb : (nr b).isSome = true) : Ch x nr a q ↔ q = a ∨ Ch x nr b q := by
 constructor
 ·intro c
  cases c with
  | refl _ => exact .inl rfl
  | step _ e t => rw [h] at e; cases e; exact .inr t
 ·rintro (rfl | c)
  ·exact .refl (by rw [h]; rfl)
  ·exact .step hne h c
theorem ch_le {x : Nat} {nr : Nat → Option Nat} {pl : Nat → Nat} (h : ∀ a b, a ≠ x → nr a = some b → pl b < pl a ∧ (nr b).isSome = true) {a q : Nat} (c : Ch x nr a q) : pl q ≤ pl a ∧ (pl q = pl a → q = a) := by
 induction c with
 | refl _ => exact ⟨Nat.le_refl _, fun _ => rfl⟩
 | step hne e _ ih => have := (h _ _ hne e).1; exact ⟨by omega, fun q => absurd q (by omega)⟩
theorem TreeR.anti (h : TreeR code nr) {a b : Nat} (c : Ch code.length nr a b) (d : Ch code.length nr b a) : a = b := by
 obtain ⟨pl, hp⟩ := h.up
 have h1 := ch_le hp c
 have h2 := ch_le hp d
 exact (h1.2 (by omega)).symm
theorem TreeR.step (h : TreeR code nr) {a b : Nat} (ha : Ex code a) (hne : a ≠ code.length) (e : nr a = some b) : b ≠ a ∧ Ex code b ∧ PD code.length (nxN code) a b := by
 obtain ⟨pl, hp⟩ := h.up
 obtain ⟨h1, h2⟩ := hp a b hne e
 exact ⟨fun q => by rw [q] at h1; omega, (h.sm b).1 h2, (h.ch a b ha).1 (.step hne e (.refl h2))⟩
theorem TreeR.one (h : TreeR code nr) (h' : TreeR code nr') : nr = nr' := by
 funext a
 by_cases ha : Ex code a
 ·by_cases hne : a = code.length
  ·rw [hne, h.ex, h'.ex]
  ·obtain ⟨b, e⟩ := Option.isSome_iff_exists.1 ((h.sm a).2 ha)
   obtain ⟨b', e'⟩ := Option.isSome_iff_exists.1 ((h'.sm a).2 ha)
   obtain ⟨n1, x1, p1⟩ := h.step ha hne e
   obtain ⟨n2, x2, p2⟩ := h'.step ha hne e'
   have c1 := (h'.ch a b ha).2 p1
   rw [ch_up hne e' ((h'.sm b').2 x2)] at c1
   have c2 := (h.ch a b' ha).2 p2
   rw [ch_up hne e ((h.sm b).2 x1)] at c2
   have d1 := c1.resolve_left n1
   have d2 := c2.resolve_left n2
   have : b = b' := h.anti d2 ((h.ch b' b x2).2 ((h'.ch b' b x2).1 d1))
   rw [e, e', this]
 ·have e : nr a = none := by
   cases q : nr a with
   | none => rfl
   | some b => exact absurd ((h.sm a).1 (by rw [q]; rfl)) ha
  have e' : nr' a = none := by
   cases q : nr' a with
   | none => rfl
   | some b => exact absurd ((h'.sm a).1 (by rw [q]; rfl)) ha
  rw [e, e']
noncomputable def nrT (code : List (Int × Int)) : Nat → Option Nat := @dite _ (∃ nr, TreeR code nr) (Classical.propDecidable _) (fun h => Classical.choose h) fun _ _ => none
theorem nrT_ok (h : TreeR code nr) : nr = nrT code := by
 have hex : ∃ nr, TreeR code nr := ⟨nr, h⟩
 unfold nrT
 rw [@dif_pos _ (Classical.propDecidable _) hex]
 exact h.one (Classical.choose_spec hex)
noncomputable def treeT (code : List (Int × Int)) : List Int := treeI code (nrT code)
theorem treeV_ok {v : PV} (h : treeV code v) : TreeR code (nrT code) ∧ v = encI (treeT code) := by
 obtain ⟨nr, h1, rfl⟩ := h
 have := nrT_ok h1
 unfold treeT
 rw [← this]
 exact ⟨h1, rfl⟩
noncomputable def pB (p : Prop) : Bool := @decide p (Classical.propDecidable p)
theorem pB_iff {p : Prop} : pB p = true ↔ p := @decide_eq_true_iff p (Classical.propDecidable p)
noncomputable def pdB (code : List (Int × Int)) (q p : Nat) : Bool := pB (Ch code.length (nrT code) p q)
theorem pd_iff (h : TreeR code (nrT code)) {p q : Nat} : Ch code.length (nrT code) p q ↔ Ex code p ∧ PD code.length (nxN code) p q := by
 constructor
 ·intro c
  have := (h.sm p).1 c.src
  exact ⟨this, (h.ch p q this).1 c⟩
 ·exact fun ⟨h1, h2⟩ => (h.ch p q h1).2 h2
end
theorem treeT_at {code : List (Int × Int)} {i : Nat} (hi : i < code.length + 1) : (treeT code).getD i 0 = if i = code.length then -1 else ofN (nrT code i) := by
 unfold treeT treeI
 rw [List.getD_eq_getElem?_getD, List.getElem?_map, List.getElem?_range hi]
 rfl
theorem treeT_len (code : List (Int × Int)) : (treeT code).length = code.length + 1 := treeI_len _ _
end Go.Proofs.Ytggaimcopbjdiaa.Graph
