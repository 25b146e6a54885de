/- Regions that draw: the invariant over what is done so far. -/
import Derived.Test.YtdbehmepikhghaaAM18
set_option linter.unusedVariables false
set_option linter.unusedSimpArgs false
namespace Go.Proofs.Ytdbehmepikhghaa.AM
section
variable {P : Program} {X : Nat → Option Obj} {w0 wi : World} {V : Type → Type} [Vec V] {share : Bool} {ops : Array Oper} {call : Value → List Value → AH V → Option (Value × AH V)} {T : AT} {keep ord effs : List Nat} {S : Nat → CS V}
  {ρ0 ρ ρ' : Rho} {Ls : Nat → Prop} {f sz0 : Nat} {XD : Nat → Option Obj} {a : Act} {w : World} {ds0 : List Deferred}

def Done (ord : List Nat) (Ls : Nat → Prop) (k : Nat) : Prop := ∃ i, ord[k]? = some i ∧ Ls i
def Closed (ops : Array Oper) (Ls : Nat → Prop) : Prop := ∀ (j : Nat) (o : Oper), ops[j]? = some o → Ls j → ∀ e ∈ o.after.toList, Region.binds .any e = true → Ls e.on

theorem dep_of (i : Nat) (o : Oper) (hcl : Closed ops Ls) (ho : ops[i]? = some o) (hd : ∀ e ∈ o.after.toList, Region.binds .any e = true → Ls e.on) : ∀ x ∈ (aheadOf ops.toList).getD i [], Ls x :=
  ahead_closed Ls (fun j o' hj h => hcl j o' (by rw [← Array.getElem?_toList]; exact hj) h) i o (by rw [Array.getElem?_toList]; exact ho) hd
/-- Two that name something in common: the earlier is done before the later. -/
theorem clash {k k1 i i1 : Nat} {o o1 : Oper} (C : Canon P share ops call T keep ord effs S) (hcl : Closed ops Ls) (hk : ord[k]? = some i) (hk1 : ord[k1]? = some i1) (ho : ops[i]? = some o) (ho1 : ops[i1]? = some o1) (hlt : k < k1) (hd : Ls i1)
    (hna : o.apart ops o1 = false) : Ls i := by
  rcases C.plan.free i1 k1 hk1 i (take_mem hk hlt) with h | ⟨oi, oj, h1, h2, h3, _⟩
  · exact dep_of i1 o1 hcl ho1 (hcl i1 o1 ho1 hd) i h
  · rw [ho] at h1; rw [ho1] at h2
    cases h1; cases h2
    rw [h3] at hna; cases hna
theorem eff_first {k i : Nat} {o : Oper} (C : Canon P share ops call T keep ord effs S) (hk : ord[k]? = some i) (he : i ∈ effs) (hd : ∀ x ∈ (aheadOf ops.toList).getD i [], Ls x) : ∀ k', k' < k → Done ord Ls k' := by
  intro k' hlt
  have hl : k < ord.length := (List.getElem?_eq_some_iff.1 hk).1
  have h1 : ord[k']? = some ord[k'] := List.getElem?_eq_getElem (by omega)
  rcases C.plan.free i k hk _ (take_mem h1 hlt) with h | ⟨_, _, _, _, _, h4⟩
  · exact ⟨_, h1, hd _ h⟩
  · exact absurd he h4

structure Inv0 (P : Program) (X : Nat → Option Obj) (w0 wi : World) (ops : Array Oper) (T : AT) (keep ord effs : List Nat) (S : Nat → CS V) (ρ0 : Rho) (sz0 : Nat) (ds0 : List Deferred) (Ls : Nat → Prop) (f : Nat) (ρ : Rho) (XD : Nat → Option Obj) (a : Act) (w : World) : Prop where
  fle : f ≤ ord.length
  front : ∀ k, k < f → Done ord Ls k
  closed : Closed ops Ls
  now : Now P XD w0 (ρ.cut (Vec.size (S f).H)) (S f).H w
  xd : ∀ cb o, X cb = some o → XD cb = some o
  calm : ∀ k, f ≤ k → Done ord Ls k → (S (k + 1)).H = (S k).H ∨ ∃ cs, (S (k + 1)).H = anew (S k).H cs
  extra : ∀ k cs, f ≤ k → Done ord Ls k → (S (k + 1)).H = anew (S k).H cs → ∃ cb c e, ρ (Vec.size (S k).H) = some (cb, 0) ∧ ρ.lim (Vec.size (S k).H) = some (cs.length, c.size) ∧ XD cb = some (.cells c e (0, 0)) ∧ X cb = none ∧ cs.length ≤ c.size ∧
    VRels (ρ.cut (Vec.size (S k).H)) cs (c.toList.take cs.length)
  dom : ∀ b p, ρ b = some p → b < Vec.size (S f).H ∨ ∃ k cs, f ≤ k ∧ Done ord Ls k ∧ (S (k + 1)).H = anew (S k).H cs ∧ b = Vec.size (S k).H
  sep : ∀ b b' p p', ρ b = some p → ρ b' = some p' → p.1 = p'.1 → Vec.size (S f).H ≤ b → b = b'
  told : ∀ k t, Done ord Ls k → dstAt ops ord k = some t → (∀ k', k < k' → Done ord Ls k' → dstAt ops ord k' ≠ some t) → ∃ v', a.tmps[t]? = some v' ∧ VRel (ρ.cut (Vec.size (S (k + 1)).H)) (S (k + 1)).v v'
  kept : ∀ t i, keep.idxOf? t = some i → (∀ k, Done ord Ls k → dstAt ops ord k ≠ some t) → ∃ v v', T[i]? = some v ∧ a.tmps[t]? = some v' ∧ VRel (ρ.cut (Vec.size (S 0).H)) v v'
  le0 : ρ0.le ρ
  heap : wi.heap.size ≤ w.heap.size
  names : ∀ b p, ρ b = some p → ρ0 b = some p ∨ X p.1 = none
  sizeA : a.tmps.size = sz0
  defs : a.defers = ds0

theorem Done.lt {k : Nat} (h : Done ord Ls k) : k < ord.length := by
  obtain ⟨i, hi, _⟩ := h
  exact (List.getElem?_eq_some_iff.1 hi).1
theorem size_anew (H : AH V) (cs : List Value) : Vec.size (anew H cs) = Vec.size H + 1 := Vec.size_push _ _

/-- What is done at the front is taken in. -/
theorem Inv0.advance (C : Canon P share ops call T keep ord effs S) : ∀ (n : Nat) {f : Nat} {XD : Nat → Option Obj}, ord.length - f = n → Inv0 P X w0 wi ops T keep ord effs S ρ0 sz0 ds0 Ls f ρ XD a w →
    ∃ f' XD', Inv0 P X w0 wi ops T keep ord effs S ρ0 sz0 ds0 Ls f' ρ XD' a w ∧ (f' < ord.length → ¬ Done ord Ls f')
  | 0, f, XD, hn, I => ⟨f, XD, I, fun h => by omega⟩
  | n + 1, f, XD, hn, I => by
    by_cases hd : Done ord Ls f
    · have hlt := hd.lt
      have hsz := C.size1 hlt
      have hf1 : ∀ k, k < f + 1 → Done ord Ls k := fun k hk => by
        by_cases e : k = f
        · subst e; exact hd
        · exact I.front k (by omega)
      rcases I.calm f (Nat.le_refl _) hd with hH | ⟨cs, hH⟩
      · refine Inv0.advance C n (f := f + 1) (by omega) ⟨by omega, hf1, I.closed, by rw [hH]; exact I.now, I.xd, fun k hk => I.calm k (by omega), fun k cs hk => I.extra k cs (by omega), fun b p hb => ?_, fun b b' p p' h1 h2 h3 h4 => I.sep b b' p p' h1 h2 h3 (by omega), I.told, I.kept, I.le0, I.heap, I.names, I.sizeA, I.defs⟩
        rcases I.dom b p hb with h | ⟨k, cs, h1, h2, h3, h4⟩
        · exact .inl (by rw [hH]; exact h)
        · by_cases e : k = f
          · subst e
            rw [hH] at h3
            have := congrArg Vec.size h3
            rw [size_anew] at this
            omega
          · exact .inr ⟨k, cs, by omega, h2, h3, h4⟩
      · obtain ⟨cb, c, e, q1, q2, q3, q4, q5, q6⟩ := I.extra f cs (Nat.le_refl _) hd hH
        have hs1 : Vec.size (S (f + 1)).H = Vec.size (S f).H + 1 := by rw [hH, size_anew]
        have hadm : Now P (putX XD cb none) w0 (ρ.cut (Vec.size (S (f + 1)).H)) (S (f + 1)).H w := by
          rw [hs1, hH]
          refine I.now.letIn q1 q2 q3 (fun b p hb hp hq => ?_) q5 q6
          have := I.sep _ _ _ _ q1 hp (by rw [hq]) (Nat.le_refl _)
          omega
        refine Inv0.advance C n (f := f + 1) (XD := putX XD cb none) (by omega) ⟨by omega, hf1, I.closed, hadm, fun k o hk => ?_, fun k hk => I.calm k (by omega), fun k cs' hk hdk hHk => ?_, fun b p hb => ?_, fun b b' p p' h1 h2 h3 h4 => I.sep b b' p p' h1 h2 h3 (by omega), I.told, I.kept, I.le0, I.heap, I.names, I.sizeA, I.defs⟩
        · rw [putX_ne _ (fun e2 => by subst e2; rw [q4] at hk; cases hk)]
          exact I.xd k o hk
        · obtain ⟨cb1, c1, e1, p1, p2, p3, p4⟩ := I.extra k cs' (by omega) hdk hHk
          have hsk := C.size (k := f + 1) (k' := k) (by omega) (by have := hdk.lt; omega)
          refine ⟨cb1, c1, e1, p1, p2, ?_, p4⟩
          rw [putX_ne _ (fun e2 => ?_)]
          · exact p3
          · subst e2
            have := I.sep _ _ _ _ p1 q1 rfl (by omega)
            omega
        · rcases I.dom b p hb with h | ⟨k, cs, h1, h2, h3, h4⟩
          · exact .inl (by omega)
          · by_cases e : k = f
            · subst e; exact .inl (by omega)
            · exact .inr ⟨k, cs, by omega, h2, h3, h4⟩
    · exact ⟨f, XD, I, fun _ => hd⟩

/-- What a ready operation looks at. -/
theorem Inv0.looked (C : Canon P share ops call T keep ord effs S) (I : Inv0 P X w0 wi ops T keep ord effs S ρ0 sz0 ds0 Ls f ρ XD a w) {k i : Nat} {o : Oper} (hk : ord[k]? = some i) (ho : ops[i]? = some o) (hnd : ¬ Ls i)
    (hah : ∀ x ∈ (aheadOf ops.toList).getD i [], Ls x) {t : Nat} (ht : t ∈ o.looksAt ops) {x : Org} (hx : (S k).m.find t = some x) :
    ∃ v v', oval T (S k).L x = some v ∧ a.tmps[t]? = some v' ∧ VRel (ρ.cut (Vec.size (S k).H)) v v' := by
  have hlt : k < ord.length := (List.getElem?_eq_some_iff.1 hk).1
  -- a place that tells t: done if and only if it is ahead
  have later : ∀ k1, k < k1 → Done ord Ls k1 → dstAt ops ord k1 ≠ some t := by
    rintro k1 h1 ⟨i1, hi1, hl1⟩ hdst
    have hlt1 : i1 < ops.size := C.plan.lt _ (List.mem_iff_getElem?.2 ⟨k1, hi1⟩)
    have ho1 : ops[i1]? = some ops[i1] := Array.getElem?_eq_getElem hlt1
    rw [dstAt_eq hi1 ho1] at hdst
    refine hnd (clash C I.closed hk hi1 ho ho1 h1 hl1 ?_)
    rw [← Bool.not_eq_true]
    exact fun hap => (Oper.apart_spec hap).2.2 t hdst ht
  have earlier : ∀ k1, k1 < k → dstAt ops ord k1 = some t → Done ord Ls k1 := by
    intro k1 h1 hdst
    obtain ⟨i1, o1, hi1, ho1⟩ := C.at (k := k1) (by omega)
    rw [dstAt_eq hi1 ho1] at hdst
    rcases C.plan.free i k hk i1 (take_mem hi1 h1) with h | ⟨oi, oj, e1, e2, e3, _⟩
    · exact ⟨i1, hi1, hah _ h⟩
    · rw [ho1] at e1; rw [ho] at e2
      cases e1; cases e2
      exact absurd ht ((Oper.apart_spec e3).1 t hdst)
  have self : ∀ k1, Done ord Ls k1 → k1 ≠ k := by
    rintro k1 ⟨i1, hi1, hl1⟩ rfl
    rw [hk] at hi1; cases hi1
    exact hnd hl1
  rcases C.env (k := k) (by omega) t x hx with ⟨k', h1, h2, h3, h4⟩ | ⟨h1, j, h2, rfl⟩
  · obtain ⟨v', q1, q2⟩ := I.told k' t (earlier k' h1 h2) h2 (fun k'' a1 a2 => by
      rcases Nat.lt_trichotomy k'' k with hc | hc | hc
      · exact h3 k'' a1 hc
      · exact absurd hc (self k'' a2)
      · exact later k'' hc a2)
    exact ⟨_, v', h4, q1, q2.mono (cut_le (C.size (by omega) (by omega)))⟩
  · obtain ⟨v, v', q1, q2, q3⟩ := I.kept t j h2 (fun k'' a2 => by
      rcases Nat.lt_trichotomy k'' k with hc | hc | hc
      · exact h1 k'' hc
      · exact absurd hc (self k'' a2)
      · exact later k'' hc a2)
    exact ⟨v, v', q1, q2, q3.mono (cut_le (C.size (by omega) (by omega)))⟩

/-- What a place tells, told. -/
theorem Inv0.tell (C : Canon P share ops call T keep ord effs S) (I : Inv0 P X w0 wi ops T keep ord effs S ρ0 sz0 ds0 Ls f ρ XD a w) {k i : Nat} {o : Oper} (hk : ord[k]? = some i) (ho : ops[i]? = some o) (hnd : ¬ Ls i) (hsz : ∀ d, o.dst = some d → d < a.tmps.size)
    (hle : ρ.le ρ') {v' : Value} (hv : VRel (ρ'.cut (Vec.size (S (k + 1)).H)) (S (k + 1)).v v') :
    (∀ k1 t, Done ord (fun j => Ls j ∨ j = i) k1 → dstAt ops ord k1 = some t → (∀ k', k1 < k' → Done ord (fun j => Ls j ∨ j = i) k' → dstAt ops ord k' ≠ some t) → ∃ v1, (a.put o.dst v').tmps[t]? = some v1 ∧ VRel (ρ'.cut (Vec.size (S (k1 + 1)).H)) (S (k1 + 1)).v v1) ∧
    (∀ t j, keep.idxOf? t = some j → (∀ k1, Done ord (fun j => Ls j ∨ j = i) k1 → dstAt ops ord k1 ≠ some t) → ∃ v v1, T[j]? = some v ∧ (a.put o.dst v').tmps[t]? = some v1 ∧ VRel (ρ'.cut (Vec.size (S 0).H)) v v1) := by
  have hdk := dstAt_eq (ops := ops) hk ho
  have up : ∀ k1, Done ord Ls k1 → Done ord (fun j => Ls j ∨ j = i) k1 := fun k1 ⟨i1, h1, h2⟩ => ⟨i1, h1, .inl h2⟩
  have hk' : Done ord (fun j => Ls j ∨ j = i) k := ⟨i, hk, .inr rfl⟩
  refine ⟨fun k1 t hd hdst hlater => ?_, fun t j hj hno => ?_⟩
  · obtain ⟨i1, hi1, hl1⟩ := hd
    rcases hl1 with hl1 | rfl
    · have hlt1 : i1 < ops.size := C.plan.lt _ (List.mem_iff_getElem?.2 ⟨k1, hi1⟩)
      have ho1 : ops[i1]? = some ops[i1] := Array.getElem?_eq_getElem hlt1
      have hne : o.dst ≠ some t := by
        intro hdo
        rcases Nat.lt_trichotomy k1 k with hc | hc | hc
        · exact hlater k hc hk' (by rw [hdk]; exact hdo)
        · subst hc; rw [hk] at hi1; cases hi1; exact hnd hl1
        · rw [dstAt_eq hi1 ho1] at hdst
          refine hnd (clash C I.closed hk hi1 ho ho1 hc hl1 ?_)
          rw [← Bool.not_eq_true]
          exact fun hap => (Oper.apart_spec hap).2.1 t hdo hdst
      obtain ⟨v1, q1, q2⟩ := I.told k1 t ⟨i1, hi1, hl1⟩ hdst (fun k' a1 a2 => hlater k' a1 (up k' a2))
      exact ⟨v1, by rw [put_get hsz, if_neg hne]; exact q1, q2.mono (cut_mono hle _)⟩
    · have : k1 = k := C.plan.inj hi1 hk
      subst this
      rw [hdk] at hdst
      exact ⟨v', by rw [put_get hsz, if_pos hdst], hv⟩
  · have hne : o.dst ≠ some t := fun hdo => hno k hk' (by rw [hdk]; exact hdo)
    obtain ⟨v, v1, q1, q2, q3⟩ := I.kept t j hj (fun k1 a1 => hno k1 (up k1 a1))
    exact ⟨v, v1, q1, by rw [put_get hsz, if_neg hne]; exact q2, q3.mono (cut_mono hle _)⟩
end
end Go.Proofs.Ytdbehmepikhghaa.AM
