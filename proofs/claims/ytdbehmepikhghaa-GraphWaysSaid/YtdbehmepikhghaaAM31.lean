/- Data that are handed in, of whatever plain type: they lie in a heap of rows that are read alone. -/
import Derived.Test.YtdbehmepikhghaaAM29
import Derived.Test.YtdbehmepikhghaaAM30
import Derived.ChangeArms
set_option linter.unusedVariables false
set_option linter.unusedSimpArgs false
namespace Go.Proofs.Ytdbehmepikhghaa.AM
inductive All2 {α β : Type} (R : α → β → Prop) : List α → List β → Prop
  | nil : All2 R [] []
  | cons {a : α} {b : β} {l : List α} {l' : List β} (h : R a b) (t : All2 R l l') : All2 R (a :: l) (b :: l')
theorem All2.length {α β : Type} {R : α → β → Prop} {l : List α} {l' : List β} (h : All2 R l l') : l.length = l'.length := by
  induction h with
  | nil => rfl
  | cons _ _ ih => simp [ih]
theorem All2.imp {α β : Type} {R S : α → β → Prop} {l : List α} {l' : List β} (h : All2 R l l') (k : ∀ a b, R a b → S a b) : All2 S l l' := by
  induction h with
  | nil => exact .nil
  | cons x _ ih => exact .cons (k _ _ x) ih
theorem All2.get {α β : Type} {R : α → β → Prop} {l : List α} {l' : List β} (h : All2 R l l') : ∀ i (h1 : i < l.length) (h2 : i < l'.length), R l[i] l'[i] := by
  induction h with
  | nil => intro i h1; simp at h1
  | cons x _ ih =>
    intro i h1 h2
    cases i with
    | zero => exact x
    | succ i => exact ih i (by simpa using h1) (by simpa using h2)
theorem All2.of_exists {α β : Type} {R : α → β → Prop} : ∀ {l : List α}, (∀ i (h : i < l.length), ∃ b, R l[i] b) → ∃ l', All2 R l l'
  | [], _ => ⟨[], .nil⟩
  | a :: l, h => by
    obtain ⟨b, hb⟩ := h 0 (by simp)
    obtain ⟨l', hl⟩ := All2.of_exists (l := l) (fun i hi => h (i + 1) (by simpa using hi))
    exact ⟨b :: l', .cons hb hl⟩
section
variable {V : Type → Type} [Vec V] {P : Program} {W : World}
/-- In each such heap there is, or can be laid, what reads as these cells. -/
def Pl (V : Type → Type) [Vec V] (P : Program) (W : World) (cs : List Value) (R : AH V → List Value → Prop) : Prop := ∀ (H : AH V) (ρ : Rho), ReadOnly H → Now P (allOf W) W ρ H W →
  ∃ (H' : AH V) (ρ' : Rho) (acs : List Value), Keeps H H' ∧ ReadOnly H' ∧ ρ.le ρ' ∧ Now P (allOf W) W ρ' H' W ∧ VRels ρ' acs cs ∧ R H' acs
def Stays (R : AH V → List Value → Prop) : Prop := ∀ H H' acs, Keeps H H' → R H acs → R H' acs
theorem pl_flat {cs : List Value} (h : cs.all flat1 = true) : Pl V P W cs (fun _ acs => acs = cs) := fun H ρ ro hn =>
  ⟨H, ρ, cs, .refl _, ro, Rho.le.refl _, hn, VRels.flat (fun v hv => flat_of_flat1 (List.all_eq_true.1 h v hv)), rfl⟩
theorem pl_imp {cs : List Value} {R S : AH V → List Value → Prop} (h : Pl V P W cs R) (k : ∀ H acs, R H acs → S H acs) : Pl V P W cs S := fun H ρ ro hn =>
  let ⟨H', ρ', acs, a, b, c, d, e, f⟩ := h H ρ ro hn
  ⟨H', ρ', acs, a, b, c, d, e, k _ _ f⟩
theorem pl_append {a b : List Value} {R S : AH V → List Value → Prop} (h : Pl V P W a R) (hr : Stays R) (k : Pl V P W b S) : Pl V P W (a ++ b) (fun H acs => ∃ x y, acs = x ++ y ∧ R H x ∧ S H y) := fun H ρ ro hn => by
  obtain ⟨H1, ρ1, x, k1, ro1, l1, n1, v1, r1⟩ := h H ρ ro hn
  obtain ⟨H2, ρ2, y, k2, ro2, l2, n2, v2, r2⟩ := k H1 ρ1 ro1 n1
  exact ⟨H2, ρ2, x ++ y, k1.trans k2, ro2, l1.trans l2, n2, VRels.append (v1.mono l2) v2, x, y, rfl, hr _ _ _ k2 r1, r2⟩
theorem pl_rows {D : Type} {Q : D → AH V → List Value → Prop} (hq : ∀ d, Stays (Q d)) {rows : List (List Value)} {ds : List D} (h : All2 (fun r d => Pl V P W r (Q d)) rows ds) : Pl V P W rows.flatten (fun H acs => ∃ ars, acs = ars.flatten ∧ All2 (fun a d => Q d H a) ars ds) := by
  induction h with
  | nil => exact fun H ρ ro hn => ⟨H, ρ, [], .refl _, ro, Rho.le.refl _, hn, .nil, [], rfl, .nil⟩
  | cons x t ih =>
    intro H ρ ro hn
    obtain ⟨H1, ρ1, a, k1, ro1, l1, n1, v1, r1⟩ := x H ρ ro hn
    obtain ⟨H2, ρ2, y, k2, ro2, l2, n2, v2, ars, rfl, r2⟩ := ih H1 ρ1 ro1 n1
    exact ⟨H2, ρ2, a ++ ars.flatten, k1.trans k2, ro2, l1.trans l2, n2, VRels.append (v1.mono l2) v2, a :: ars, rfl, .cons (hq _ _ _ _ k2 r1) r2⟩
/-- A row of the model's memory, laid. -/
theorem place_cells {ρ : Rho} {H : AH V} {acs cs : List Value} {cb co : Nat} {c : Array Value} {e : TypeId} {fr : Nat × Nat} (hro : ReadOnly H) (hn : Now P (allOf W) W ρ H W) (hw : W.heap[cb]? = some (.cells c e fr)) (hlen : co + cs.length ≤ c.size) (hcell : ∀ j v, cs[j]? = some v → c[co + j]? = some v) (hr : VRels ρ acs cs) :
    ∃ (ρ' : Rho), Keeps H (Vec.push H (.arr acs false 0)) ∧ ReadOnly (Vec.push H (.arr acs false 0)) ∧ ρ.le ρ' ∧ Now P (allOf W) W ρ' (Vec.push H (.arr acs false 0)) W ∧ ρ' (Vec.size H) = some (cb, co) ∧ ρ'.lim (Vec.size H) = none := by
  have hfree := hn.fresh
  have hal : acs.length = cs.length := hr.length
  have hB : ∀ ρ2 : Rho, ρ.le ρ2 → BRel P (allOf W) ρ2 W (cb, co) (.arr acs false 0) := fun ρ2 hle => by
    refine ⟨c, e, fr, hw, by rw [hal]; exact hlen, fun i v hv => ?_, fun h => by cases h⟩
    obtain ⟨v', h1, h2⟩ := hr.get hv
    exact ⟨v', hcell i v' h1, h2.mono hle⟩
  have hlt : cb < W.heap.size := (Array.getElem?_eq_some_iff.1 hw).1
  have hview : ∀ b, b ≠ Vec.size H → view (Vec.push H (.arr acs false 0)) b = view H b := fun b hb => by rw [view_push]; exact setB_ne _ _ hb
  have hsame : view (Vec.push H (.arr acs false 0)) (Vec.size H) = .arr acs false 0 := by rw [view_push]; exact setB_same _ _ _
  have hvro : ∀ b, view H b = .dead ∨ ∃ cs, view H b = .arr cs false 0 := fun b => by
    unfold view
    cases hq : Vec.get H b with
    | none => exact .inl rfl
    | some B => obtain ⟨cs, rfl⟩ := hro b B hq; exact .inr ⟨cs, rfl⟩
  have hboth : ∀ b, view (Vec.push H (.arr acs false 0)) b = .dead ∨ ∃ cs, view (Vec.push H (.arr acs false 0)) b = .arr cs false 0 := fun b => by
    by_cases e : b = Vec.size H
    · subst e; exact .inr ⟨_, hsame⟩
    · rw [hview b e]; exact hvro b
  refine ⟨ρ.upd (Vec.size H) (cb, co) none, ⟨by rw [Vec.size_push]; omega, fun j hj => by rw [Vec.get_push, if_neg (by omega)]⟩, ?_, Rho.le_upd _ _ hfree, ⟨⟨hn.st.os, hn.st.tape, hn.st.output, hn.st.size, hn.st.frame, ?_, ?_, ?_, ?_⟩, ?_⟩, Rho.upd_same _ _ _ _, Rho.lim_same _ _ _ _⟩
  · intro b B hb
    rw [Vec.get_push] at hb
    split at hb
    · cases hb; exact ⟨_, rfl⟩
    · exact hro b B hb
  · intro b p hb
    by_cases e : b = Vec.size H
    · subst e; rw [Rho.upd_same] at hb; cases hb; exact hlt
    · rw [Rho.upd_ne ρ _ _ e] at hb; exact hn.st.dom b p hb
  · intro b p hb
    by_cases e : b = Vec.size H
    · subst e; rw [Rho.upd_same] at hb; cases hb
      rw [hsame]; exact hB _ (Rho.le_upd _ _ hfree)
    · rw [Rho.upd_ne ρ _ _ e] at hb
      rw [hview b e]
      exact (hn.st.blk b p hb).mono (Rho.le_upd _ _ hfree)
  · intro b b' p p' _ _ _ _
    rcases hboth b with h | ⟨cs, h⟩ <;> rw [h] <;> trivial
  · intro b p cs' lo hb hv
    rcases hboth b with h | ⟨cs, h⟩ <;> rw [h] at hv <;> cases hv
  · intro b p hb
    rw [Vec.size_push]
    by_cases e : b = Vec.size H
    · omega
    · rw [Rho.upd_ne ρ _ _ e] at hb
      have := hn.dom b p hb
      omega
/-- A slice as it lies in the model's memory. -/
def CSl (W : World) (v : Value) (rows : List (List Value)) : Prop :=
  (v = .slice none 0 0 ∧ rows = []) ∨ (∃ a cap, v = .slice (some a) 0 cap ∧ rows = []) ∨ ∃ cb co cap c e fr, v = .slice (some ⟨cb, co, none⟩) rows.length cap ∧ rows.length ≤ cap ∧ W.heap[cb]? = some (.cells c e fr) ∧ co + rows.flatten.length ≤ c.size ∧ ∀ (j : Nat) (v : Value), rows.flatten[j]? = some v → c[co + j]? = some v
theorem pl_slice {D : Type} {Q : D → AH V → List Value → Prop} (hq : ∀ d, Stays (Q d)) {v : Value} {rows : List (List Value)} {ds : List D} (hc : CSl W v rows) (h : All2 (fun r d => Pl V P W r (Q d)) rows ds) :
    Pl V P W [v] (fun H acs => ∃ av ars, acs = [av] ∧ RowS H av ars ∧ All2 (fun a d => Q d H a) ars ds) := by
  have hrows := pl_rows hq h
  intro H ρ ro hn
  rcases hc with ⟨rfl, rfl⟩ | ⟨a, cap, rfl, rfl⟩ | ⟨cb, co, cap, c, e, fr, rfl, hcap, hw, hfit, hcell⟩
  · cases h
    exact ⟨H, ρ, [.slice none 0 0], .refl _, ro, Rho.le.refl _, hn, .cons (.flat rfl) .nil, _, [], rfl, .inl ⟨.inl rfl, rfl⟩, .nil⟩
  · cases h
    exact ⟨H, ρ, [.slice (some ⟨0, 0, some 0⟩) 0 0], .refl _, ro, Rho.le.refl _, hn, .cons (.wild (by omega) (fun h => by omega)) .nil, _, [], rfl, .inl ⟨.inr ⟨_, _, _, rfl⟩, rfl⟩, .nil⟩
  · obtain ⟨H1, ρ1, acs, k1, ro1, l1, n1, v1, ars, rfl, r1⟩ := hrows H ρ ro hn
    obtain ⟨ρ2, k2, ro2, l2, n2, hρ, hl⟩ := place_cells ro1 n1 hw hfit hcell v1
    have hlen : ars.length = rows.length := by rw [r1.length, h.length]
    refine ⟨_, ρ2, [.slice (some ⟨Vec.size H1, 0, none⟩) ars.length (2 * ars.length + 0)], k1.trans k2, ro2, l1.trans l2, n2, .cons ?_ .nil, _, ars, rfl, ?_, r1.imp fun a d hd => hq d _ _ _ k2 hd⟩
    · rw [hlen]
      have := VRel.sl (ρ := ρ2) (b := Vec.size H1) (o := 0) (cb := cb) (co := co) (n := rows.length) (c := rows.length) (c' := cap) (e := 0) hρ hcap (by omega) (fun h => by omega) (fun _ _ L sz hL => by rw [hl] at hL; cases hL)
      exact this
    · exact .inr ⟨Vec.size H1, 0, _, _, _, _, rfl, by rw [Vec.get_push, if_pos rfl], by omega, by rw [List.drop_zero, List.take_length]⟩
end
end Go.Proofs.Ytdbehmepikhghaa.AM
