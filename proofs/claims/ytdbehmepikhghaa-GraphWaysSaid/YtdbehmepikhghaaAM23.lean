/- From the evaluator to the model's calls: all that was there is as it was. -/
import Derived.Test.YtdbehmepikhghaaAM22
set_option linter.unusedVariables false
set_option linter.unusedSimpArgs false
namespace Go.Proofs.Ytdbehmepikhghaa.AM
section
variable {V : Type → Type} [Vec V] {E : Env V}
def allOf (w : World) : Nat → Option Obj := fun cb => w.heap[cb]?
theorem calls_of (hE : EnvOk E) {N : Nat} {f : FuncId} {args : List Value} {H H' : AH V} (h : acall E N f args H = some (.bool true, H')) {ρ : Rho} {w : World} {args' : List Value} (hv : VRels ρ args args') (hn : Now E.P (allOf w) w ρ H w) :
    Calls E.P f args'.toArray w (fun e w' => e = .returned (.bool true) ∧ RowKit.Below w.heap.size w w') := by
  have h1 := (acall_sound hE h).2 (allOf w) w ρ w args' hv hn none 0
  refine (callsIn_wide (n := 0)).1 (CallsIn.mono (F := FW none) h1 fun e w' he => ?_)
  obtain ⟨v', rfl, ρ', hd⟩ := he
  refine ⟨by rw [hd.val.bool], hd.now.st.os, hd.now.st.tape, hd.now.st.output, hd.heap, fun k hk => ?_⟩
  have hq : w.heap[k]? = some w.heap[k] := Array.getElem?_eq_getElem hk
  rw [hq]
  exact hd.now.st.frame k _ hq
def noRho : Rho := ⟨fun _ => none, fun _ => none⟩
theorem now_none (P : Program) (X : Nat → Option Obj) (w : World) (H : AH V) (hX : ∀ cb o, X cb = some o → w.heap[cb]? = some o) : Now P X w noRho H w :=
  ⟨⟨rfl, rfl, rfl, Nat.le_refl _, hX, (fun _ _ h => by cases h), (fun _ _ h => by cases h), (fun _ _ _ _ _ h => by cases h), (fun _ _ _ _ h => by cases h)⟩, (fun _ _ h => by cases h)⟩
/-- A call without arguments. -/
theorem calls_closed (hE : EnvOk E) {N : Nat} {f : FuncId} (h : (acall E N f [] Vec.emp).map (·.1) = some (.bool true)) (w : World) :
    Calls E.P f #[] w (fun e w' => e = .returned (.bool true) ∧ RowKit.Below w.heap.size w w') := by
  cases hc : acall E N f [] (Vec.emp : AH V) with
  | none => rw [hc] at h; cases h
  | some p =>
    obtain ⟨v, H'⟩ := p
    rw [hc] at h
    simp only [Option.map_some, Option.some.injEq] at h
    subst h
    exact calls_of hE hc .nil (now_none _ _ _ _ fun _ _ h => h)
/-! ### Tables of functions -/
theorem get_foldl {α : Type} : ∀ (l : List α) (v : V α) (i : Nat), Vec.get (l.foldl Vec.push v) i = if i < Vec.size v then Vec.get v i else l[i - Vec.size v]?
  | [], v, i => by
    by_cases h : i < Vec.size v
    · rw [if_pos h]; rfl
    · rw [if_neg h]
      cases hq : Vec.get v i with
      | none => simp [hq]
      | some x => exact absurd (Vec.get_lt v i x hq) h
  | x :: l, v, i => by
    rw [List.foldl_cons, get_foldl l, Vec.size_push, Vec.get_push]
    by_cases h : i < Vec.size v
    · rw [if_pos (by omega), if_neg (by omega), if_pos h]
    · rw [if_neg h]
      by_cases h2 : i = Vec.size v
      · rw [if_pos (by omega), if_pos h2, h2, Nat.sub_self]; rfl
      · rw [if_neg (by omega), show i - Vec.size v = (i - (Vec.size v + 1)) + 1 by omega, List.getElem?_cons_succ]
theorem get_ofList {α : Type} (l : List α) (i : Nat) : Vec.get (Vec.ofList l : V α) i = l[i]? := by
  unfold Vec.ofList
  rw [get_foldl, Vec.size_emp, if_neg (by omega), Nat.sub_zero]
def OkFrom (P : Program) : Nat → List (Option AFunc) → Prop
  | _, [] => True
  | k, none :: r => OkFrom P (k + 1) r
  | k, some x :: r => (∃ share, compileFn P share k = some x) ∧ OkFrom P (k + 1) r
theorem okFrom_get {P : Program} : ∀ {l : List (Option AFunc)} {k i : Nat} {fn : AFunc}, OkFrom P k l → l[i]? = some (some fn) → ∃ share, compileFn P share (k + i) = some fn
  | [], k, i, fn, _, h => by simp at h
  | none :: r, k, 0, fn, _, h => by simp at h
  | some x :: r, k, 0, fn, ho, h => by
    simp at h
    subst h
    exact ho.1
  | none :: r, k, i + 1, fn, ho, h => by
    have := okFrom_get (k := k + 1) (i := i) (l := r) ho (by simpa using h)
    rwa [show k + 1 + i = k + (i + 1) by omega] at this
  | some x :: r, k, i + 1, fn, ho, h => by
    have := okFrom_get (k := k + 1) (i := i) (l := r) ho.2 (by simpa using h)
    rwa [show k + 1 + i = k + (i + 1) by omega] at this
theorem fn_of {P : Program} {l : List (Option AFunc)} (ho : OkFrom P 0 l) {f : FuncId} {fn : AFunc} (h : (Vec.get (Vec.ofList l : V (Option AFunc)) f).getD none = some fn) : ∃ share, compileFn P share f = some fn := by
  rw [get_ofList] at h
  cases hq : l[f]? with
  | none => rw [hq] at h; cases h
  | some x =>
    rw [hq] at h
    simp only [Option.getD_some] at h
    subst h
    have := okFrom_get ho hq
    rwa [Nat.zero_add] at this
end
end Go.Proofs.Ytdbehmepikhghaa.AM
