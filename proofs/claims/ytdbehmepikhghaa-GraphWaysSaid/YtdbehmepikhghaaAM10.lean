/- What is kept over regions; a plain region as a whole. -/
import Derived.Test.YtdbehmepikhghaaAM9
set_option linter.unusedVariables false
set_option linter.unusedSimpArgs false
namespace Go.Proofs.Ytdbehmepikhghaa.AM
section
variable {P : Program} {X : Nat → Option Obj} {w0 w w1 w2 : World} {ρ ρ1 ρ2 : Rho} {V : Type → Type} [Vec V] {H H1 H2 : AH V} {T L : List Value} {m m' : OEnv}
  {call : Value → List Value → AH V → Option (Value × AH V)} {share : Bool} {keep : List Nat}

structure Gone (P : Program) (X : Nat → Option Obj) (w0 : World) (ρ : Rho) (H : AH V) (w : World) (ρ' : Rho) (H' : AH V) (w' : World) : Prop where
  le : ρ.le ρ'
  now : Now P X w0 ρ' H' w'
  size : Vec.size H ≤ Vec.size H'
  heap : w.heap.size ≤ w'.heap.size
  names : ∀ b p, ρ' b = some p → ρ b = some p ∨ X p.1 = none
theorem Gone.refl (s : Now P X w0 ρ H w) : Gone P X w0 ρ H w ρ H w := ⟨Rho.le.refl _, s, Nat.le_refl _, Nat.le_refl _, names_same⟩
theorem Gone.trans (a : Gone P X w0 ρ H w ρ1 H1 w1) (b : Gone P X w0 ρ1 H1 w1 ρ2 H2 w2) : Gone P X w0 ρ H w ρ2 H2 w2 :=
  ⟨a.le.trans b.le, b.now, Nat.le_trans a.size b.size, Nat.le_trans a.heap b.heap, fun k p hk => by
    rcases b.names k p hk with h | h
    · exact a.names k p h
    · exact .inr h⟩
theorem Did.gone {v v' : Value} (d : Did P X w0 ρ H H1 w v ρ1 v' w1) : Gone P X w0 ρ H w ρ1 H1 w1 := ⟨d.le, d.now, d.size, d.heap, d.names⟩

/-- The marks of deferred calls. -/
inductive DRel (ρ : Rho) : List Nat → List Deferred → Prop
  | nil : DRel ρ [] []
  | cons {d cb co : Nat} {D : Deferred} {ds : List Nat} {Ds : List Deferred} (h : ρ d = some (cb, co)) (ht : D.target = .collected cb) (t : DRel ρ ds Ds) : DRel ρ (d :: ds) (D :: Ds)
theorem DRel.mono {ds : List Nat} {Ds : List Deferred} (h : DRel ρ ds Ds) (hl : ρ.le ρ1) : DRel ρ1 ds Ds := by
  induction h with
  | nil => exact .nil
  | cons h ht _ ih => exact .cons (hl _ _ h).1 ht ih

def AE.exit' : AE → Exit
  | .norm => .normal
  | .exit id => .exit id
  | .goto l => .goto l
  | .ret => .ret
/-- Behind a piece of code. -/
def Post (P : Program) (X : Nat → Option Obj) (w0 : World) (ρ : Rho) (H : AH V) (w : World) (keep : List Nat) (nt : Nat) (e : AE) (T' : AT) (H' : AH V) (ds' : List Nat) : Exit → Act → World → Prop :=
  fun ex a' w' => ex = e.exit' ∧ ∃ ρ', Gone P X w0 ρ H w ρ' H' w' ∧ TRel ρ' keep T' a'.tmps ∧ nt ≤ a'.tmps.size ∧ DRel ρ' ds' a'.defers

/-! ### What is kept -/
theorem find_entry_aux (t : Nat) : ∀ (keep : List Nat) (k : Nat), OEnv.find ((keep.zipIdx k).map fun (t, i) => (t, Org.tmp i)) t = (keep.idxOf? t).map fun i => .tmp (k + i)
  | [], k => rfl
  | u :: keep, k => by
    rw [List.zipIdx_cons, List.map_cons, find_cons, List.idxOf?_cons, find_entry_aux t keep (k + 1)]
    by_cases e : u = t
    · subst e; simp
    · rw [if_neg e]
      have : (u == t) = false := by simpa using e
      simp only [this]
      cases keep.idxOf? t with
      | none => rfl
      | some i =>
        simp only [Option.map_some, Bool.false_eq_true, if_false, Option.some.injEq, Org.tmp.injEq]
        omega
theorem find_entry (keep : List Nat) (t : Nat) : (entry keep).find t = (keep.idxOf? t).map .tmp := by
  have := find_entry_aux t keep 0
  simpa [entry] using this
theorem TRel.mrel {tmps : Array Value} (h : TRel ρ keep T tmps) : MRel ρ (entry keep) T [] tmps := by
  intro t x hx
  rw [find_entry] at hx
  cases hi : keep.idxOf? t with
  | none => rw [hi] at hx; cases hx
  | some i =>
    rw [hi] at hx
    injection hx with hx
    subst hx
    exact h t i hi

def bk (m : OEnv) (n : Nat) (p : Nat × Nat) : Option (Nat × Src) := match m.find p.1 with
  | some (.tmp j) => if p.2 == j then none else some (p.2, .tmp j)
  | some x => some (p.2, x.src n)
  | none => none
theorem backOf_eq (keep : List Nat) (m : OEnv) (n : Nat) : backOf keep m n = (keep.zipIdx 0).filterMap (bk m n) := rfl
theorem aback_get {T0 L : List Value} : ∀ (l : List Nat) (k : Nat) (T T' : List Value), aback T0 L ((l.zipIdx k).filterMap (bk m L.length)) T = some T' → (∀ i, k ≤ i → T[i]? = T0[i]?) →
    T'.length = T.length ∧ (∀ i, i < k → T'[i]? = T[i]?) ∧ (∀ (j t : Nat) (x : Org) (v : Value), l[j]? = some t → m.find t = some x → oval T0 L x = some v → k + j < T.length → T'[k + j]? = some v)
  | [], k, T, T', h, hT => by
    simp only [List.zipIdx_nil, List.filterMap_nil, aback, Option.some.injEq] at h
    subst h
    exact ⟨rfl, fun _ _ => rfl, fun j t x v hj => by simp at hj⟩
  | t :: l, k, T, T', h, hT => by
    rw [List.zipIdx_cons] at h
    cases hb : bk m L.length (t, k) with
    | none =>
      rw [List.filterMap_cons_none hb] at h
      obtain ⟨h1, h2, h3⟩ := aback_get l (k + 1) T T' h (fun i hi => hT i (by omega))
      refine ⟨h1, fun i hi => h2 i (by omega), fun j t' x v hj hx hv hlt => ?_⟩
      cases j with
      | zero =>
        simp at hj
        subst hj
        rw [Nat.add_zero, h2 k (by omega), hT k (Nat.le_refl _)]
        unfold bk at hb
        simp only [hx] at hb
        cases x with
        | tmp i =>
          simp only at hb
          split at hb
          · rename_i e
            have : k = i := by simpa using e
            subst this
            exact hv
          · cases hb
        | _ => cases hb
      | succ j =>
        have := h3 j t' x v (by simpa using hj) hx hv (by omega)
        rw [← this]; congr 1; omega
    | some q =>
      rw [List.filterMap_cons_some hb] at h
      have hq : ∃ x, m.find t = some x ∧ q = (k, x.src L.length) := by
        unfold bk at hb
        simp only at hb
        split at hb
        · split at hb
          · cases hb
          · injection hb with hb; exact ⟨.tmp _, ‹_›, hb.symm⟩
        · injection hb with hb; exact ⟨_, ‹_›, hb.symm⟩
        · cases hb
      obtain ⟨x0, hx0, rfl⟩ := hq
      unfold aback at h
      split at h
      · rename_i u hu
        obtain ⟨h1, h2, h3⟩ := aback_get l (k + 1) (T.set k u) T' h (fun i hi => by rw [List.getElem?_set_ne (by omega)]; exact hT i (by omega))
        rw [List.length_set] at h1
        refine ⟨h1, fun i hi => by rw [h2 i (by omega), List.getElem?_set_ne (by omega)], fun j t' x v hj hx hv hlt => ?_⟩
        cases j with
        | zero =>
          simp at hj
          subst hj
          rw [hx0] at hx
          cases hx
          rw [Nat.add_zero] at hlt ⊢
          rw [h2 k (by omega), List.getElem?_set_self hlt, ← hu, oval_src hv]
        | succ j =>
          have := h3 j t' x v (by simpa using hj) hx hv (by rw [List.length_set]; omega)
          rw [← this]; congr 1; omega
      · cases h
theorem idx_get : ∀ {keep : List Nat} {t i : Nat}, keep.idxOf? t = some i → keep[i]? = some t
  | [], t, i, h => by cases h
  | u :: keep, t, i, h => by
    rw [List.idxOf?_cons] at h
    by_cases e : u = t
    · subst e
      simp at h
      subst h
      rfl
    · have : (u == t) = false := by simpa using e
      simp only [this, Bool.false_eq_true, if_false] at h
      cases hq : keep.idxOf? t with
      | none => rw [hq] at h; cases h
      | some j =>
        rw [hq] at h
        injection h with h
        subst h
        simpa using idx_get hq
/-- What is written back is what is kept. -/
theorem back_rel {tmps tmps' : Array Value} {T' : List Value} (h0 : TRel ρ keep T tmps) (hm : MRel ρ1 m T L tmps') (hdef : ∀ t, keep.idxOf? t ≠ none → m.find t ≠ none) (hb : aback T L (backOf keep m L.length) T = some T') : TRel ρ1 keep T' tmps' := by
  intro t i hi
  obtain ⟨h1, h2, h3⟩ := aback_get keep 0 T T' (by rw [← backOf_eq]; exact hb) (fun _ _ => rfl)
  obtain ⟨v0, _, hv0, _⟩ := h0 t i hi
  have hlt : i < T.length := (List.getElem?_eq_some_iff.1 hv0).1
  cases hx : m.find t with
  | none => exact absurd hx (hdef t (by rw [hi]; simp))
  | some x =>
    obtain ⟨v, v', q1, q2, q3⟩ := hm t x hx
    have := h3 i t x v (idx_get hi) hx q1 (by omega)
    rw [Nat.zero_add] at this
    exact ⟨v, v', this, q2, q3⟩
theorem someOps_find {ops : Array Oper} : ∀ {l : List (Oper × Nat)} {m m' : OEnv} {k k' : Nat} {al : List AOper}, someOps P share ops l m k = some (al, m', k') → ∀ t, m.find t ≠ none → m'.find t ≠ none
  | [], m, m', k, k', al, h, t, ht => by
    simp only [someOps, Option.some.injEq, Prod.mk.injEq] at h
    rw [← h.2.1]; exact ht
  | (o, lo) :: l, m, m', k, k', al, h, t, ht => by
    have hs : ∀ x, (setOrg m o.dst x).find t ≠ none := fun x => by
      rw [find_setOrg]
      split
      · simp
      · exact ht
    simp only [someOps] at h
    split at h
    · exact someOps_find h t (hs _)
    · split at h
      · rename_i h1
        simp only [Option.some.injEq, Prod.mk.injEq] at h
        rw [← h.2.1]
        exact someOps_find h1 t (hs _)
      · cases h
    · cases h

theorem region_sound {ops : Array Oper} {al : List AOper} {back : List (Nat × Src)} (hcall : CallOk P call) {id nt : Nat} {r : Option Nat} {n : Nat} {a : Act} {ds : List Nat} {res : Res V}
    (hc : compileRegion P share keep ops false = .region al back) (hr : sRegion T back ds (aops P call T al [] H) = some res)
    (hT : TRel ρ keep T a.tmps) (hn : Now P X w0 ρ H w) (hnt : nt ≤ a.tmps.size) (hd : (ops.toList.all fun o => match o.dst with | some d => Nat.blt d nt | none => true) = true) (hD : DRel ρ ds a.defers) :
    (Code.region id ops false).wpIn (FW r) n P (Post P X w0 ρ H w keep nt res.e res.T res.H res.ds) a w := by
  unfold compileRegion at hc
  simp only [Bool.false_eq_true, if_false] at hc
  split at hc
  · rename_i l m k hs
    injection hc with h1 h2
    subst h1; subst h2
    unfold sRegion at hr
    split at hr
    · rename_i L' H' ha
      split at hr
      · rename_i T' hb
        injection hr with hr
        subst hr
        refine wpIn_region_list (list_sound hcall hs rfl ha hT.mrel hn hnt (fun o ho d hd0 => ?_) fun ρ' a' w' g1 g2 g3 g4 g5 g6 g7 g8 g9 => ?_)
        · have := List.all_eq_true.1 hd o ho
          rw [hd0] at this
          simp only [Nat.blt_eq] at this
          exact this
        · subst g9
          refine ⟨rfl, ρ', ⟨g1, g3, g6, g7, g8⟩, back_rel hT g2 (fun t ht => someOps_find hs t ?_) hb, by rw [g4]; exact hnt, by rw [g5]; exact hD.mono g1⟩
          rw [find_entry]
          cases hq : keep.idxOf? t with
          | none => exact absurd hq ht
          | some i => simp
      · cases hr
    · cases hr
  · cases hc
end
end Go.Proofs.Ytdbehmepikhghaa.AM
