import Derived.Test.YtggaimcopbjdiaaTabA
set_option linter.unusedVariables false
set_option linter.unusedSimpArgs false
namespace Go.Proofs.Ytggaimcopbjdiaa.AM
def loadF (T : List PV) (op : AOp Src) (v : PV) : Bool := match op with
 | .load _ a => (match a with
   | .tmp i => (match T[i]? with | some (.fptr _ _ _ _ _) => vq v | _ => false)
   | _ => false)
 | _ => true
def popsF (T : List PV) : List AOper → List PV → Option (List PV × Prop)
 | [], L => force L fun L => some (L, True)
 | o :: r, L => match pwanted T L o.g with
   | some true => (match pval o.op (psev T L) [] with
     | some (v, q) => (match loadF T o.op v with
       | true => (match popsF T r (v :: L) with | some (L', q') => some (L', q ∧ q') | none => none)
       | false => none)
     | none => none)
   | some false => (match isEff o.op with
     | true => none
     | false => popsF T r (.s undef :: L))
   | none => none
section
variable {V : Type → Type} [Vec V] {E : Env V} {F F' F0 : Nat → Prop} {ρ ρ' ρ0 : PR} {H H' H0 : AH V} {hp hp' hp0 : PH} {ds ds' : List Nat} {T L : List PV} {Ta La : List Value} {inR : Bool} {p : List Nat} {a b c : ACode} {R : AE → List PV → PH → Prop} {st : PS} {dr : Bool} {ops : List AOper} {l0 : Nat} {Q : List PV → PH → Prop}
theorem loadF_ok {L : List PV} {O : List Bool} {md : List Nat} {cnt lo : Nat} {op : AOp Src} {v : PV} (h : loadF T op v = true) : plOk l0 ⟨L, O, hp, md, cnt⟩ T lo op v = true := by
 unfold loadF at h
 split at h
 ·next n a =>
  split at h
  ·next i =>
   split at h
   ·next sz k row i0 off e =>
    simp only [plOk, psev, fresh, e, srcO]
    cases Nat.ble cnt lo with
    | true => rfl
    | false => simp [h]
   ·cases h
  ·cases h
 ·unfold plOk
  split
  ·next op n a hne => exact (hne _ _ rfl).elim
  ·rfl
theorem prg_pureD : ∀ {pre : List AOper} {L L' : List PV} {O : List Bool} {md : List Nat} {cnt : Nat} {q : Prop}, popsF T pre L = some (L', q) → q → (∀ O', PRg E p dr T ops l0 ⟨L', O', hp, md, cnt⟩ Q) → PRg E p dr T (pre ++ ops) l0 ⟨L, O, hp, md, cnt⟩ Q
 | [], L, L', O, md, cnt, q, h, hq, hP => by
   simp only [popsF, force_eq, Option.some.injEq, Prod.mk.injEq] at h
   obtain ⟨rfl, _⟩ := h
   exact hP O
 | o :: r, L, L', O, md, cnt, q, h, hq, hP => by
   simp only [popsF] at h
   split at h
   ·next hw =>
    split at h
    ·next v q1 e =>
     split at h
     ·next hlf =>
      split at h
      ·next L2 q2 e2 =>
       cases h
       have e' := pval_hp e hp
       have hih : ∀ (x : PV × Prop), isHeap o.op = true → pval o.op (psev T L) hp = some x → False := fun x h1 h2 => by
        cases hop : o.op <;> rw [hop] at h1 h2 <;> first | (simp [isHeap] at h1; done) | (simp [pval] at h2; done)
       have hnh : isHeap o.op = false := by
        cases hb : isHeap o.op with
        | false => rfl
        | true => exact (hih _ hb e').elim
       have hpl : (bif dr then plOk l0 ⟨L, O, hp, md, cnt⟩ T o.lo o.op v else true) = true := by
        cases dr with
        | false => rfl
        | true => exact loadF_ok hlf
       refine prg_step (st' := ⟨v :: L, (bif dr then opO l0 ⟨L, O, hp, md, cnt⟩ T o.op else false) :: O, hp, md, cnt⟩) (q := q1) ?_ hq.1 (prg_pureD e2 hq.2 hP)
       simp only [pstep, hw, hnh, e', hpl, fb_eq]
      ·cases h
     ·cases h
    ·cases h
   ·next hw =>
    split at h
    ·cases h
    ·next he =>
     refine prg_step (st' := ⟨.s undef :: L, false :: O, hp, md, cnt⟩) (q := True) ?_ trivial (prg_pureD h hq hP)
     simp only [pstep, hw, he, fb_eq, cond_false]
   ·cases h
theorem g_pureD {L L' : List PV} {O : List Bool} {md : List Nat} {cnt : Nat} {q : Prop} {ops' : List AOper} (k : Nat) (hk : ∀ O', PRg E p dr T ops' l0 ⟨L', O', hp, md, cnt⟩ Q) (h : popsF T (ops.take k) L = some (L', q) := by rfl) (hd : ops.drop k = ops' := by rfl) (hq : q := by (try simp only [in64, and_true, true_and]); (try omega)) : PRg E p dr T ops l0 ⟨L, O, hp, md, cnt⟩ Q := by
 subst hd
 have := prg_pureD (O := O) (ops := ops.drop k) (md := md) (cnt := cnt) h hq hk
 rwa [List.take_append_drop] at this
theorem agg_cast {cs cs' : List PV} (hl : cs.length = cs'.length) (h : ∀ (j : Nat) (c c' : PV), cs[j]? = some c → cs'[j]? = some c' → ∀ (F : Nat → Prop) (ρ : PR) (H : AH V) (w : Value), PRel F ρ H c w → PRel F ρ H c' w) (F : Nat → Prop) (ρ : PR) (H : AH V) (w : Value) (hw : PRel F ρ H (.agg cs) w) : PRel F ρ H (.agg cs') w := by
 obtain ⟨l, rfl, hL⟩ := hw.agg_inv
 refine .agg (hl ▸ hL.len) fun j c v h1 h2 => ?_
 have hj : j < cs.length := by rw [hl]; exact (List.getElem?_eq_some_iff.1 h1).1
 exact h j cs[j] c (List.getElem?_eq_getElem hj) h1 _ _ _ _ (hL.at' j _ _ (List.getElem?_eq_getElem hj) h2)
end
end Go.Proofs.Ytggaimcopbjdiaa.AM
