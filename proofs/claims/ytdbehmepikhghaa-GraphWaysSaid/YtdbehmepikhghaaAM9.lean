/- Operands resolved; a region whose operations come in the order of the text. -/
import Derived.Test.YtdbehmepikhghaaAM8
import Derived.TacticsIn
set_option linter.unusedVariables false
set_option linter.unusedSimpArgs false
namespace Go.Proofs.Ytdbehmepikhghaa.AM
section mapM
variable {P : Program} {α β : Type} {f : α → Option β} {V : Type → Type} [Vec V] {H : AH V} {call : Value → List Value → AH V → Option (Value × AH V)} {ev : β → Option Value}

theorem m1_some {γ : Type} {k : β → γ} {x : α} {r : γ} (h : m1 f k x = some r) : ∃ y, f x = some y ∧ r = k y := by
  unfold m1 at h
  split at h
  · injection h with h; exact ⟨_, ‹_›, h.symm⟩
  · cases h
theorem m2_some {γ : Type} {k : β → β → γ} {x y : α} {r : γ} (h : m2 f k x y = some r) : ∃ a b, f x = some a ∧ f y = some b ∧ r = k a b := by
  unfold m2 at h
  split at h
  · injection h with h; exact ⟨_, _, ‹_›, ‹_›, h.symm⟩
  · cases h
theorem m3_some {γ : Type} {k : β → β → β → γ} {x y z : α} {r : γ} (h : m3 f k x y z = some r) : ∃ a b c, f x = some a ∧ f y = some b ∧ f z = some c ∧ r = k a b c := by
  unfold m3 at h
  split at h
  · injection h with h; exact ⟨_, _, _, ‹_›, ‹_›, ‹_›, h.symm⟩
  · cases h
theorem evs_map : ∀ {xs : List α} {ys : List β}, mapOpt f xs = some ys → evs ev ys = evs (fun x => (f x).bind ev) xs
  | [], ys, h => by simp [mapOpt] at h; subst h; rfl
  | x :: r, ys, h => by
    unfold mapOpt at h
    split at h
    · rename_i y hy
      split at h
      · rename_i l hl
        injection h with h
        subst h
        simp only [evs, hy, Option.bind_some, evs_map hl]
      · cases h
    · cases h
theorem xo_map {x : Option α} {y : Option β} (h : mapO f x = some y) : xo ev y = xo (fun x => (f x).bind ev) x := by
  cases x with
  | none => simp [mapO] at h; subst h; rfl
  | some x =>
    simp only [mapO] at h
    split at h
    · rename_i z hz
      injection h with h
      subst h
      simp only [xo, hz, Option.bind_some]
    · cases h
theorem xParts_map : ∀ {ps : List (Nat × Nat × α)} {l : List (Nat × Nat × β)}, mapOpt (mParts f) ps = some l → xParts ev l = xParts (fun x => (f x).bind ev) ps
  | [], l, h => by simp [mapOpt] at h; subst h; rfl
  | (o, s, x) :: r, l, h => by
    unfold mapOpt at h
    split at h
    · rename_i y hy
      split at h
      · rename_i l' hl
        injection h with h
        subst h
        unfold mParts at hy
        split at hy
        · rename_i z hz
          injection hy with hy
          subst hy
          simp only at hz
          simp only [xParts, hz, Option.bind_some, xParts_map hl]
        · cases hy
      · cases h
    · cases h
theorem aexec_mapM {op : AOp α} {op' : AOp β} (h : op.mapM f = some op') : aexec P call op' ev H = aexec P call op (fun x => (f x).bind ev) H := by
  cases op <;> simp only [AOp.mapM] at h <;>
    (first
      | (cases h; rfl)
      | (obtain ⟨y, h1, rfl⟩ := m1_some h; simp only [aexec, x1, h1, Option.bind_some]; done)
      | (obtain ⟨y, z, h1, h2, rfl⟩ := m2_some h; simp only [aexec, x2, h1, h2, Option.bind_some]; done)
      | (obtain ⟨y, z, u, h1, h2, h3, rfl⟩ := m3_some h; simp only [aexec, xPick, h1, h2, h3, Option.bind_some]; rename_i c a b; cases ev y <;> (try rfl); rename_i vv; cases vv <;> (try rfl); rename_i bb; cases bb <;> simp [h2, h3]; done)
      | (split at h
         · injection h with h; subst h; rename_i h1; simp only [aexec, xs, evs_map h1]
         · cases h)
      | (split at h
         · injection h with h; subst h; rename_i h1; simp only [aexec, xBuild, xMkarr, xParts_map h1]
         · cases h)
      | (split at h
         · injection h with h; subst h; rename_i h1 h2 h3; simp only [aexec, xScut, h1, Option.bind_some, xo_map h2, xo_map h3]
         · cases h)
      | (split at h
         · injection h with h; subst h; rename_i h1 h2 h3 h4; simp only [aexec, xCut, h1, Option.bind_some, xo_map h2, xo_map h3, xo_map h4]
         · cases h)
      | (split at h
         · injection h with h; subst h; rename_i h1 h2; simp only [aexec, xMkfn, evs_map h1, evs_map h2]
         · cases h)
      | (split at h
         · injection h with h; subst h; rename_i h1 h2; simp only [aexec, xMkfn, xCall, h1, Option.bind_some, evs_map h2]
         · cases h))
end mapM

/-! ### Where values come from -/
def oval (T L : List Value) : Org → Option Value
  | .tmp i => T[i]?
  | .val k => L.reverse[k]?
  | .const v => some v
  | .func f => some (.func (.func f) #[] #[])
theorem oval_src {T L : List Value} {x : Org} {v : Value} (h : oval T L x = some v) : sev T L (x.src L.length) = some v := by
  cases x with
  | val k =>
    simp only [oval] at h
    have hk : k < L.length := by have := (List.getElem?_eq_some_iff.1 h).1; simpa using this
    rw [List.getElem?_reverse hk] at h
    exact h
  | _ => exact h
theorem oval_cons {T L : List Value} {x : Org} {v : Value} (u : Value) (h : oval T L x = some v) : oval T (u :: L) x = some v := by
  cases x with
  | val k =>
    simp only [oval] at h ⊢
    have hk : k < L.reverse.length := (List.getElem?_eq_some_iff.1 h).1
    rw [List.reverse_cons, List.getElem?_append_left hk]
    exact h
  | _ => exact h
theorem oval_last (T L : List Value) (u : Value) : oval T (u :: L) (.val L.length) = some u := by
  simp only [oval, List.reverse_cons]
  rw [List.getElem?_append_right (by simp)]
  simp
theorem find_cons (m : OEnv) (d t : Nat) (x : Org) : OEnv.find ((d, x) :: m) t = if d = t then some x else m.find t := by
  simp only [OEnv.find, List.find?_cons]
  by_cases e : d = t
  · subst e; simp
  · rw [if_neg e]
    have : (d == t) = false := by simpa using e
    simp only [this]
theorem find_setOrg (m : OEnv) (d : Option Nat) (t : Nat) (x : Org) : (setOrg m d x).find t = if d = some t then some x else m.find t := by
  cases d with
  | none => simp [setOrg]
  | some d => simp only [setOrg, find_cons, Option.some.injEq]

def MRel (ρ : Rho) (m : OEnv) (T L : List Value) (tmps : Array Value) : Prop :=
  ∀ t x, m.find t = some x → ∃ v v', oval T L x = some v ∧ tmps[t]? = some v' ∧ VRel ρ v v'
section
variable {P : Program} {X : Nat → Option Obj} {w0 w : World} {o : Oper} {ρ ρ' : Rho} {V : Type → Type} [Vec V] {H H' : AH V} {v : Value} {m : OEnv} {T L : List Value}
  {call : Value → List Value → AH V → Option (Value × AH V)} {share : Bool} {a : Act} {r : Option Nat} {n : Nat} {Q : Exit → Act → World → Prop}

theorem MRel.org (h : MRel ρ m T L a.tmps) {x : Operand} {y : Org} (hx : orgOf m x = some y) : ∃ v, oval T L y = some v ∧ VRel ρ v (a.eval x) := by
  cases x with
  | tmp t =>
    obtain ⟨v, v', h1, h2, h3⟩ := h t y hx
    exact ⟨v, h1, by simp only [Act.eval, Array.getD_eq_getD_getElem?, h2, Option.getD_some]; exact h3⟩
  | const c =>
    simp only [orgOf] at hx
    split at hx
    · rename_i hf
      injection hx with hx
      subst hx
      exact ⟨c, rfl, .flat hf⟩
    · cases hx
  | global g => cases hx
  | func f =>
    injection hx with hx
    subst hx
    exact ⟨_, rfl, .fn .nil .nil⟩
theorem MRel.erel (h : MRel ρ m T L a.tmps) : ERel ρ (fun x => (srcOf m L.length x).bind (sev T L)) a.eval := by
  intro x v hx
  simp only [srcOf] at hx
  cases hy : orgOf m x with
  | none => rw [hy] at hx; cases hx
  | some y =>
    rw [hy] at hx
    obtain ⟨v', h1, h2⟩ := h.org hy
    simp only [Option.map_some, Option.bind_some, oval_src h1, Option.some.injEq] at hx
    exact hx ▸ h2
theorem orgIn_some {ops : Array Oper} {x : Operand} {y : Org} (h : orgIn ops o m x = some y) : orgOf m x = some y := by
  unfold orgIn at h
  split at h
  · split at h
    · exact h
    · cases h
  · exact h
theorem srcIn_some {ops : Array Oper} {x : Operand} {s : Src} (h : srcIn ops o m n x = some s) : srcOf m n x = some s := by
  unfold srcIn at h
  cases hy : orgIn ops o m x with
  | none => rw [hy] at h; cases h
  | some y => rw [hy] at h; unfold srcOf; rw [orgIn_some hy]; exact h
theorem MRel.erelIn {ops : Array Oper} (h : MRel ρ m T L a.tmps) : ERel ρ (fun x => (srcIn ops o m L.length x).bind (sev T L)) a.eval := by
  intro x v hx
  refine h.erel x v ?_
  cases hs : srcIn ops o m L.length x with
  | none => simp only [hs] at hx; cases hx
  | some s => simp only [hs] at hx; simp only [srcIn_some hs]; exact hx
theorem MRel.mono (h : MRel ρ m T L a.tmps) (hl : ρ.le ρ') : MRel ρ' m T L a.tmps := fun t x hx => let ⟨v, v', h1, h2, h3⟩ := h t x hx; ⟨v, v', h1, h2, h3.mono hl⟩
theorem put_get {d : Option Nat} {v' : Value} {t : Nat} (hd : ∀ d0, d = some d0 → d0 < a.tmps.size) : (a.put d v').tmps[t]? = if d = some t then some v' else a.tmps[t]? := by
  cases d with
  | none => simp [Act.put]
  | some d =>
    have := hd d rfl
    simp only [Act.put, Array.getElem?_setIfInBounds, Option.some.injEq]
    by_cases e : d = t
    · subst e; rw [if_pos rfl, if_pos rfl, if_pos this]
    · rw [if_neg e, if_neg e]
theorem put_size {d : Option Nat} {v' : Value} : (a.put d v').tmps.size = a.tmps.size := by
  cases d <;> simp [Act.put]
theorem put_defers {d : Option Nat} {v' : Value} : (a.put d v').defers = a.defers := by
  cases d <;> rfl
/-- What a value does to what is told: it is told of y, and y comes to v. -/
theorem MRel.put {y : Org} {L' : List Value} {v v' : Value} (h : MRel ρ m T L a.tmps) (hL : ∀ x u, oval T L x = some u → oval T L' x = some u) (hy : oval T L' y = some v) (hv : VRel ρ v v') {d : Option Nat} (hd : ∀ d0, d = some d0 → d0 < a.tmps.size) :
    MRel ρ (setOrg m d y) T L' (a.put d v').tmps := by
  intro t x hx
  rw [find_setOrg] at hx
  by_cases e : d = some t
  · rw [if_pos e] at hx
    injection hx with hx
    subst hx
    exact ⟨v, v', hy, by rw [put_get hd, if_pos e], hv⟩
  · rw [if_neg e] at hx
    obtain ⟨u, u', h1, h2, h3⟩ := h t x hx
    exact ⟨u, u', hL _ _ h1, by rw [put_get hd, if_neg e]; exact h2, h3⟩

theorem wanted_same {ops : Array Oper} (h : MRel ρ m T L a.tmps) {d : Nat} {want : Bool} {s : Src} (hs : srcOf m L.length (.tmp d) = some s) {j : Nat} (hg : o.guard = some (j, want)) (hj : (ops[j]?).bind (·.dst) = some d) :
    Region.wanted o (yielded ops a.tmps) = awanted T L (some (s, want)) := by
  simp only [srcOf, orgOf] at hs
  cases hy : m.find d with
  | none => rw [hy] at hs; cases hs
  | some y =>
    rw [hy] at hs
    simp only [Option.map_some, Option.some.injEq] at hs
    subst hs
    obtain ⟨v, v', h1, h2, h3⟩ := h d y hy
    simp only [Region.wanted, hg, yielded, hj, Option.bind_some, h2, awanted, oval_src h1]
    cases h3 with
    | flat hf => cases v <;> simp <;> (first | rfl | (rename_i b; cases b <;> cases want <;> rfl))
    | _ => rfl
theorem guardOf_none {ops : Array Oper} (h : guardOf ops o = none) : o.guard = none := by
  cases hg : o.guard with
  | none => rfl
  | some g => simp [guardOf, hg] at h
theorem guardOf_some {ops : Array Oper} {d : Nat} {want : Bool} (h : guardOf ops o = some (some d, want)) : ∃ j, o.guard = some (j, want) ∧ (ops[j]?).bind (·.dst) = some d := by
  cases hg : o.guard with
  | none => simp [guardOf, hg] at h
  | some g =>
    obtain ⟨j, w⟩ := g
    simp only [guardOf, hg, Option.map_some, Option.some.injEq, Prod.mk.injEq] at h
    exact ⟨j, by rw [h.2], h.1⟩

theorem move_exec {x : Operand} (h : compileOp P share o = .mov x) : execOp a.eval o = pure (.value (a.eval x)) := by
  obtain ⟨dst, op, type, pos, after, guard⟩ := o
  cases op <;> simp only [compileOp] at h <;> (try (cases h; done))
  case move y => cases h; rfl
  case assign y => cases h; rfl
  all_goals (exfalso; revert h; (repeat' split) <;> (intro h; cases h))
theorem mov_not_defer {x : Operand} (h : compileOp P share o = .mov x) : ∀ c, o.op ≠ .defer c := by
  intro c hc
  obtain ⟨dst, op, type, pos, after, guard⟩ := o
  simp only at hc
  subst hc
  simp [compileOp] at h

/-- THE OPERATIONS, IN THEIR ORDER. -/
theorem list_sound {ops : Array Oper} (hcall : CallOk P call) {Q : Exit → Act → World → Prop} {nt : Nat} : ∀ {l : List Oper} {m m' : OEnv} {k k' : Nat} {al : List AOper} {L L' : List Value} {H H' : AH V} {ρ : Rho} {a : Act} {w : World},
    someOps P share ops (l.map fun o => (o, 0)) m k = some (al, m', k') → k = L.length → aops P call T al L H = some (L', H') → MRel ρ m T L a.tmps → Now P X w0 ρ H w → nt ≤ a.tmps.size → (∀ o ∈ l, ∀ d, o.dst = some d → d < nt) →
    (∀ (ρ' : Rho) (a' : Act) (w' : World), ρ.le ρ' → MRel ρ' m' T L' a'.tmps → Now P X w0 ρ' H' w' → a'.tmps.size = a.tmps.size → a'.defers = a.defers → Vec.size H ≤ Vec.size H' → w.heap.size ≤ w'.heap.size → (∀ b p, ρ' b = some p → ρ b = some p ∨ X p.1 = none) → k' = L'.length → Q .normal a' w') →
    wpListIn (FW r) n P ops Q l a w
  | [], m, m', k, k', al, L, L', H, H', ρ, a, w, hs, hk, ha, hm, hn, hnt, hd, hQ => by
    simp only [List.map_nil, someOps, Option.some.injEq, Prod.mk.injEq] at hs
    obtain ⟨rfl, rfl, rfl⟩ := hs
    simp only [aops, Option.some.injEq, Prod.mk.injEq] at ha
    obtain ⟨rfl, rfl⟩ := ha
    exact hQ ρ a w (Rho.le.refl _) hm hn rfl rfl (Nat.le_refl _) (Nat.le_refl _) names_same hk
  | o :: l, m, m', k, k', al, L, L', H, H', ρ, a, w, hs, hk, ha, hm, hn, hnt, hd, hQ => by
    subst hk
    have hdo : ∀ d0, o.dst = some d0 → d0 < a.tmps.size := fun d0 h0 => Nat.lt_of_lt_of_le (hd o (by simp) d0 h0) hnt
    have hdl : ∀ o' ∈ l, ∀ d, o'.dst = some d → d < nt := fun o' ho' => hd o' (by simp [ho'])
    have hdone : ∀ (ρ1 : Rho) (a1 : Act) (w1 : World) (H1 : AH V), ρ.le ρ1 → a1.tmps.size = a.tmps.size → a1.defers = a.defers → Vec.size H ≤ Vec.size H1 → w.heap.size ≤ w1.heap.size → (∀ b p, ρ1 b = some p → ρ b = some p ∨ X p.1 = none) →
        (∀ (ρ' : Rho) (a' : Act) (w' : World), ρ1.le ρ' → MRel ρ' m' T L' a'.tmps → Now P X w0 ρ' H' w' → a'.tmps.size = a1.tmps.size → a'.defers = a1.defers → Vec.size H1 ≤ Vec.size H' → w1.heap.size ≤ w'.heap.size → (∀ b p, ρ' b = some p → ρ1 b = some p ∨ X p.1 = none) → k' = L'.length → Q .normal a' w') := by
      intro ρ1 a1 w1 H1 q1 q2 q3 q4 q5 q6 ρ' a' w' g1 g2 g3 g4 g5 g6 g7 g8 g9
      refine hQ ρ' a' w' (q1.trans g1) g2 g3 (by omega) (by rw [g5, q3]) (by omega) (by omega) (fun b p hb => ?_) g9
      rcases g8 b p hb with h1 | h1
      · exact q6 b p h1
      · exact .inr h1
    simp only [List.map_cons, someOps] at hs
    split at hs
    · -- another's value
      rename_i y hone
      unfold oneOp at hone
      split at hone
      · rename_i x hg hc
        cases hy : orgIn ops o m x with
        | none => rw [hy] at hone; cases hone
        | some y' =>
          rw [hy] at hone
          simp only [Option.map_some, Option.some.injEq, Prod.mk.injEq, true_and] at hone
          subst hone
          obtain ⟨u, h1, h2⟩ := hm.org (orgIn_some hy)
          refine wpListIn_plain hg fun K hK => ⟨fun _ _ => trivial, ?_⟩
          rw [Oper.semAt_eq _ _ _ (mov_not_defer hc), move_exec hc, Sem.run_pure, Oper.uponIn_value]
          exact hK _ _ (list_sound hcall hs rfl ha (hm.put (fun _ _ h => h) h1 h2 hdo) hn (by rw [put_size]; exact hnt) hdl (hdone _ _ _ _ (Rho.le.refl _) put_size put_defers (Nat.le_refl _) (Nat.le_refl _) names_same))
      · split at hone
        · simp at hone
        · exfalso; revert hone; cases srcIn ops o m L.length (.tmp _) <;> simp
        · cases hone
    · rename_i ao y hone
      split at hs
      · rename_i al' m1 k1 hs'
        simp only [Option.some.injEq, Prod.mk.injEq] at hs
        obtain ⟨rfl, rfl, rfl⟩ := hs
        -- the operation itself
        have key : ∃ op', ao.op = op' ∧ (compileOp P share o).mapM (srcIn ops o m L.length) = some op' ∧ y = .val L.length ∧ Region.wanted o (yielded ops a.tmps) = awanted T L ao.g := by
          unfold oneOp at hone
          split at hone
          · rename_i x hg hc
            revert hone
            cases orgIn ops o m x <;> simp
          · split at hone
            · rename_i op' hop hg
              simp only [Option.some.injEq, Prod.mk.injEq] at hone
              obtain ⟨h1, h2⟩ := hone
              subst h1
              exact ⟨op', rfl, hop, h2.symm, by simp only [Region.wanted, guardOf_none hg, awanted]⟩
            · rename_i op' d want hop hg
              cases hsrc : srcIn ops o m L.length (.tmp d) with
              | none => rw [hsrc] at hone; cases hone
              | some s =>
                rw [hsrc] at hone
                simp only [Option.map_some, Option.some.injEq, Prod.mk.injEq] at hone
                obtain ⟨h1, h2⟩ := hone
                subst h1
                obtain ⟨j, hg1, hg2⟩ := guardOf_some hg
                exact ⟨op', rfl, hop, h2.symm, wanted_same hm (srcIn_some hsrc) hg1 hg2⟩
            · cases hone
        obtain ⟨op', rfl, hop, rfl, hwant⟩ := key
        refine wpListIn_step fun K hK => ?_
        rw [hwant]
        simp only [aops] at ha
        split at ha
        · rename_i hw
          rw [if_pos hw]
          split at ha
          · rename_i u H1 hx
            rw [aexec_mapM hop] at hx
            refine exact_op hcall hn hm.erelIn hx fun ρ1 v1 w1 hd1 => hK _ _ ?_
            have hm1 : MRel ρ1 (setOrg m o.dst (.val L.length)) T (u :: L) (a.put o.dst v1).tmps := (hm.mono hd1.le).put (fun _ _ h => oval_cons u h) (oval_last T L u) hd1.val hdo
            exact list_sound hcall hs' rfl ha hm1 hd1.now (by rw [put_size]; exact hnt) hdl (hdone _ _ _ _ hd1.le put_size put_defers hd1.size hd1.heap hd1.names)
          · cases ha
        · rename_i hw
          rw [if_neg (by simp [hw])]
          refine ⟨fun _ _ => trivial, hK _ _ ?_⟩
          have hm1 : MRel ρ (setOrg m o.dst (.val L.length)) T (undef :: L) (a.put o.dst undef).tmps := hm.put (fun _ _ h => oval_cons undef h) (oval_last T L undef) (.flat rfl) hdo
          exact list_sound hcall hs' rfl ha hm1 hn (by rw [put_size]; exact hnt) hdl (hdone _ _ _ _ (Rho.le.refl _) put_size put_defers (Nat.le_refl _) (Nat.le_refl _) names_same)
      · cases hs
    · cases hs
end
end Go.Proofs.Ytdbehmepikhghaa.AM
