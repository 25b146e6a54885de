/- Code that leaves the heap alone, in draws too, behind calls. -/
import Derived.Test.YtdbehmepikhghaaTabC
set_option linter.unusedVariables false
set_option linter.unusedSimpArgs false
namespace Go.Proofs.Ytdbehmepikhghaa.AM
/-- What such an operation tells of where its value comes from; none: not known. -/
def opG (T L : List PV) (O : List Bool) (op : AOp Src) (v : PV) : Option Bool := match op with
  | .mov x | .faddr _ x | .fld _ _ x | .nilchk x => some (srcO O x)
  | .iaddr _ x _ | .iarr _ _ x _ => some (srcO O x)
  | .load _ a => (match psev T L a with
    | some (.fptr _ _ _ _ _) => (match srcO O a, vq v with
      | true, true => some true
      | _, _ => none)
    | _ => none)
  | _ => some false
def popsG (T : List PV) : List AOper → List PV → List Bool → Option (List PV × List Bool × Prop)
  | [], L, O => force L fun L => some (L, O, True)
  | o :: r, L, O => match pwanted T L o.g with
    | some true => (match pval o.op (psev T L) [] with
      | some (v, q) => (match opG T L O o.op v with
        | some b => (match popsG T r (v :: L) (b :: O) with | some (L', O', q') => some (L', O', q ∧ q') | none => none)
        | none => none)
      | none => none)
    | some false => (match isEff o.op with
      | true => none
      | false => popsG T r (.s undef :: L) (false :: O))
    | none => none
section
variable {V : Type → Type} [Vec V] {E : Env V} {F F' F0 : Nat → Prop} {ρ ρ' ρ0 : PR} {H H' H0 : AH V} {hp hp' hp0 : PH} {ds ds' : List Nat} {T L : List PV} {Ta La : List Value} {inR : Bool} {p : List Nat} {a b c : ACode} {R : AE → List PV → PH → Prop} {st : PS} {dr : Bool} {ops : List AOper} {l0 : Nat} {Q : List PV → PH → Prop}
theorem opG_ok {L : List PV} {O : List Bool} {md : List Nat} {cnt lo : Nat} {op : AOp Src} {v : PV} {b : Bool} (h : opG T L O op v = some b) : plOk l0 ⟨L, O, hp, md, cnt⟩ T lo op v = true ∧ opO l0 ⟨L, O, hp, md, cnt⟩ T op = b := by
  cases op with
  | load n a =>
    simp only [opG] at h
    split at h
    · next sz k row i0 off e =>
      split at h
      · next e1 e2 =>
        cases h
        constructor
        · simp only [plOk, fresh, e, e1, e2]
          cases Nat.ble cnt lo <;> rfl
        · simp only [opO, fresh, e, e1]
      · cases h
    · cases h
  | _ => cases h; exact ⟨rfl, rfl⟩
theorem prg_pureG : ∀ {pre : List AOper} {L L' : List PV} {O O' : List Bool} {md : List Nat} {cnt : Nat} {q : Prop}, popsG T pre L O = some (L', O', q) → q → PRg E p true T ops l0 ⟨L', O', hp, md, cnt⟩ Q → PRg E p true T (pre ++ ops) l0 ⟨L, O, hp, md, cnt⟩ Q
  | [], L, L', O, O', md, cnt, q, h, hq, hP => by
    simp only [popsG, force_eq, Option.some.injEq, Prod.mk.injEq] at h
    obtain ⟨rfl, rfl, _⟩ := h
    exact hP
  | o :: r, L, L', O, O', md, cnt, q, h, hq, hP => by
    simp only [popsG] at h
    split at h
    · next hw =>
      split at h
      · next v q1 e =>
        split at h
        · next b hb =>
          split at h
          · next L2 O2 q2 e2 =>
            cases h
            have e' := pval_hp e hp
            have hih : ∀ (x : PV × Prop), isHeap o.op = true → pval o.op (psev T L) hp = some x → False := fun x h1 h2 => by
              cases hop : o.op <;> rw [hop] at h1 h2 <;> first | (simp [isHeap] at h1; done) | (simp [pval] at h2; done)
            have hnh : isHeap o.op = false := by
              cases hb : isHeap o.op with
              | false => rfl
              | true => exact (hih _ hb e').elim
            obtain ⟨g1, g2⟩ := opG_ok (hp := hp) (l0 := l0) (md := md) (cnt := cnt) (lo := o.lo) hb
            refine prg_step (st' := ⟨v :: L, b :: O, hp, md, cnt⟩) (q := q1) ?_ hq.1 (prg_pureG e2 hq.2 hP)
            simp only [pstep, hw, hnh, e', cond_true, g1, g2, fb_eq]
          · cases h
        · cases h
      · cases h
    · next hw =>
      split at h
      · cases h
      · next he =>
        refine prg_step (st' := ⟨.s undef :: L, false :: O, hp, md, cnt⟩) (q := True) ?_ trivial (prg_pureG h hq hP)
        simp only [pstep, hw, he, fb_eq, cond_false]
    · cases h
/-- k steps of a draw that leave the heap alone, what is loaded from what is frozen. -/
theorem g_pureG {L L' : List PV} {O O' : List Bool} {md : List Nat} {cnt : Nat} {q : Prop} {ops' : List AOper} (k : Nat) (hk : PRg E p true T ops' l0 ⟨L', O', hp, md, cnt⟩ Q) (h : popsG T (ops.take k) L O = some (L', O', q) := by rfl) (hd : ops.drop k = ops' := by rfl) (hq : q := by (try simp only [in64, and_true, true_and]); (try omega)) : PRg E p true T ops l0 ⟨L, O, hp, md, cnt⟩ Q := by
  subst hd
  have := prg_pureG (ops := ops.drop k) (md := md) (cnt := cnt) h hq hk
  rwa [List.take_append_drop] at this
end
end Go.Proofs.Ytdbehmepikhghaa.AM
