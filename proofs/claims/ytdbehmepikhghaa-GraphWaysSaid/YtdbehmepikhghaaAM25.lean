/- A call that was evaluated by itself, of what lies in a heap of its own, comes to the same in every heap that holds as much; nothing is left of it but its value. -/
import Derived.Test.YtdbehmepikhghaaAM24
set_option linter.unusedVariables false
set_option linter.unusedSimpArgs false
namespace Go.Proofs.Ytdbehmepikhghaa.AM
section
variable {P : Program} {X : Nat → Option Obj} {w0 w w' : World} {ρ : Rho} {h : Nat → Blk}
theorem St.grown (s : St P X w0 ρ h w) (ho : w'.os = w.os) (ht : w'.tape = w.tape) (hp : w'.output = w.output) (hs : w.heap.size ≤ w'.heap.size) (hh : ∀ k, k < w.heap.size → w'.heap[k]? = w.heap[k]?) : St P X w0 ρ h w' where
  os := ho.trans s.os
  tape := ht.trans s.tape
  output := hp.trans s.output
  size := Nat.le_trans s.size hs
  frame cb o hx := by
    have h1 := s.frame cb o hx
    rw [hh cb (Array.getElem?_eq_some_iff.1 h1).1]
    exact h1
  dom b p hb := Nat.lt_of_lt_of_le (s.dom b p hb) hs
  blk b p hb := (s.blk b p hb).heap p (hh _ (s.dom b p hb))
  sep := s.sep
  lim b p cs lo hb hc := by
    rw [hh _ (s.dom b p hb)]
    exact s.lim b p cs lo hb hc
variable {V : Type → Type} [Vec V] {H : AH V}
theorem Now.grown (s : Now P X w0 ρ H w) (ho : w'.os = w.os) (ht : w'.tape = w.tape) (hp : w'.output = w.output) (hs : w.heap.size ≤ w'.heap.size) (hh : ∀ k, k < w.heap.size → w'.heap[k]? = w.heap[k]?) : Now P X w0 ρ H w' :=
  ⟨s.st.grown ho ht hp hs hh, s.dom⟩
/-- Called without arguments. -/
theorem closed_ok {U : Type → Type} [Vec U] {E : Env U} (hE : EnvOk E) {N : Nat} {f : FuncId} {v : Value} (h : (acall E N f [] Vec.emp).map (·.1) = some v) (hv : flat v = true) (H : AH V) : CallsOk E.P f [] H v H := by
  cases hc : acall E N f [] (Vec.emp : AH U) with
  | none => rw [hc] at h; cases h
  | some p =>
    obtain ⟨v1, H1⟩ := p
    rw [hc] at h
    simp only [Option.map_some, Option.some.injEq] at h
    subst h
    obtain ⟨h1, h2⟩ := acall_sound hE hc
    refine ⟨h1, fun X w0 ρ w args' hvs hn r n => ?_⟩
    cases hvs
    refine CallsIn.mono (h2 (allOf w) w noRho w [] .nil (now_none _ _ _ _ fun _ _ h => h) r n) fun e w' he => ?_
    obtain ⟨v', rfl, ρ', hd⟩ := he
    have hv' : v' = v1 := hd.val.of_flat hv
    subst hv'
    refine ⟨_, rfl, ρ, Rho.le.refl _, hn.grown hd.now.st.os hd.now.st.tape hd.now.st.output hd.heap fun k hk => ?_, .flat hv, Nat.le_refl _, hd.heap, names_same⟩
    have hq : w.heap[k]? = some w.heap[k] := Array.getElem?_eq_getElem hk
    rw [hq]
    exact hd.now.st.frame k _ hq
end
end Go.Proofs.Ytdbehmepikhghaa.AM
