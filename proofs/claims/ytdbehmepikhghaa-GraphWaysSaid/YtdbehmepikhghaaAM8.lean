/- One operation, in the walk's form, from a state that is told exactly. -/
import Derived.Test.YtdbehmepikhghaaAM7
set_option linter.unusedVariables false
set_option linter.unusedSimpArgs false
namespace Go.Proofs.Ytdbehmepikhghaa.AM
def FW (r : Option Nat) : Fence := { Fence.wide with round := r }
section
variable {P : Program} {X : Nat → Option Obj} {w0 w : World} {o : Oper} {ρ : Rho} {h : Nat → Blk} {V : Type → Type} [Vec V] {ev : Operand → Option Value} {H H' : AH V} {v : Value}
  {call : Value → List Value → AH V → Option (Value × AH V)} {share : Bool} {a : Act} {r : Option Nat} {n : Nat} {K : Act → World → Prop} {Q : Exit → Act → World → Prop}

def OnlyReturns (R : Value → World → Prop) : Ending → World → Prop := fun e w => ∃ v, e = .returned v ∧ R v w
/-- What comes of a call. -/
def Upon (r : Option Nat) (n : Nat) (P : Program) (w : World) (R : Value → World → Prop) : Next → Prop
  | .enter f args => CallsIn (FW r) n P f args w (OnlyReturns R)
  | .round l f tmps assign body => RoundIn (FW r) n P l f tmps assign body w (OnlyReturns R)
  | _ => False
def CallOk (P : Program) (call : Value → List Value → AH V → Option (Value × AH V)) : Prop :=
  ∀ (fv : Value) (args : List Value) (H : AH V) (v : Value) (H' : AH V), call fv args H = some (v, H') →
    ∀ (X : Nat → Option Obj) (w0 : World) (ρ : Rho) (w : World) (fv' : Value) (args' : List Value), VRel ρ fv fv' → VRels ρ args args' → Now P X w0 ρ H w →
      ∃ nx, (do let d ← Deferred.ofValue fv' args'.toArray; invoke d.target d.args : Sem Next).run P w = .ok nx w ∧ ∀ r n, Upon r n P w (fun v' w' => ∃ ρ', Did P X w0 ρ H H' w v ρ' v' w') nx

theorem upon_next {nx : Next} {R : Value → World → Prop} (hu : Upon r (n - 1) P w R nx) (hK : ∀ v' w', R v' w' → K (a.put o.dst v') w') : o.uponIn (FW r) n P a K Q (.ok nx w) := by
  cases nx <;> simp only [Upon] at hu
  · rename_i f args
    rw [Oper.uponIn_enter]
    refine ⟨(fun hd => by cases hd), CallsIn.mono hu fun e w' he => ?_⟩
    obtain ⟨v', rfl, hr⟩ := he
    exact hK v' w' hr
  · rename_i l f tmps assign body
    rw [Oper.uponIn_round]
    refine ⟨(fun hd => by cases hd), RoundIn.mono hu fun e w' he => ?_⟩
    obtain ⟨v', rfl, hr⟩ := he
    exact hK v' w' hr

theorem Now.newRow (s : Now P X w0 ρ H w) {cs : List Value} {c : Array Value} (e : TypeId) (hl : cs.length ≤ c.size) (hr : VRels ρ cs (c.toList.take cs.length)) :
    Now P X w0 (ρ.upd (Vec.size H) (w.heap.size, 0) (some (cs.length, c.size))) (anew H cs) (w.alloc (.cells c e)) := by
  refine ⟨?_, fun b p hb => ?_⟩
  · rw [anew_eq, view_push]
    refine St.newRow (s.st.view fun b p hb => ?_) s.fresh e (setB_same _ _ _) hl hr
    have := s.dom b p hb
    rw [setB_ne _ _ (by omega)]
  · rw [anew_eq, Vec.size_push]
    by_cases e1 : b = Vec.size H
    · omega
    · rw [Rho.upd_ne ρ _ _ e1] at hb
      have := s.dom b p hb
      omega
theorem Makes.did {ρv : Operand → Value} {cs : List Value} {f : Nat → Value} {c : Array Value} {e : TypeId} (s : Now P X w0 ρ H w) (hm : Makes P ρv o ρ cs (Vec.size H) v f c e) :
    ∃ ρ', Did P X w0 ρ H (anew H cs) w v ρ' (f w.heap.size) (w.alloc (.cells c e)) := by
  refine ⟨_, Rho.le_upd _ _ s.fresh, s.newRow e hm.le hm.rel, hm.val _ _ (Rho.le_upd _ _ s.fresh) (Rho.upd_same _ _ _ _), by rw [anew_eq, Vec.size_push]; omega, ?_, names_upd s.st.fresh⟩
  show w.heap.size ≤ (w.heap.push _).size
  simp

theorem not_defer (hx : aexec P call (compileOp P share o) ev H = some (v, H')) : ∀ c, o.op ≠ .defer c := by
  intro c hc
  obtain ⟨dst, op, type, pos, after, guard⟩ := o
  simp only at hc
  subst hc
  simp [compileOp, aexec] at hx
/-- ONE OPERATION. -/
theorem exact_op (hcall : CallOk P call) (s : Now P X w0 ρ H w) (he : ERel ρ ev a.eval) (hx : aexec P call (compileOp P share o) ev H = some (v, H'))
    (hK : ∀ ρ' v' w', Did P X w0 ρ H H' w v ρ' v' w' → K (a.put o.dst v') w') : o.wpIn (FW r) n P a w K Q := by
  refine ⟨fun _ _ => trivial, ?_⟩
  rw [Oper.semAt_eq _ _ _ (not_defer hx)]
  by_cases hp : isPure (compileOp P share o) = true
  · obtain ⟨rfl, v', hr, hy⟩ := pure_sound he hp hx
    rw [hy w, Oper.uponIn_value]
    exact hK ρ v' w ⟨Rho.le.refl _, s, hr, Nat.le_refl _, Nat.le_refl _, names_same⟩
  by_cases hn : isNew (compileOp P share o) = true
  · obtain ⟨cs, f, c, e, rfl, hm⟩ := new_sound he hn hx
    rw [hm.run w, Oper.uponIn_value]
    obtain ⟨ρ', hd⟩ := hm.did s
    exact hK _ _ _ hd
  obtain ⟨dst, op, type, pos, after, guard⟩ := o
  have hbad : ∀ {p : Prop}, compileOp P share ⟨dst, op, type, pos, after, guard⟩ = .bad → p := fun hb => by rw [hb] at hx; simp [aexec] at hx
  cases hop : compileOp P share ⟨dst, op, type, pos, after, guard⟩ <;> rw [hop] at hp hn hx <;> (try (simp [isPure] at hp; done)) <;> (try (simp [isNew] at hn; done)) <;> (try (simp [aexec] at hx; done))
  case load n' x =>
    have hld : ∃ t y, op = .load t y ∧ isAggT P t = some n' ∧ y = x := by
      cases op <;> simp only [compileOp] at hop <;> (try (cases hop; done))
      case load t y =>
        split at hop
        · cases hop; exact ⟨t, _, rfl, ‹_›, rfl⟩
        · cases hop
      all_goals (exfalso; revert hop; (repeat' split) <;> (intro hop; cases hop))
    obtain ⟨t, y, rfl, hn', rfl⟩ := hld
    obtain ⟨h1, rfl⟩ := withH_some hx
    obtain ⟨p, hp', hl⟩ := x1_some h1
    obtain ⟨v', hr, hrun⟩ := load_sound (P := P) s.st hn' (he _ _ hp') (fun b B _ hb => view_some hb) hl
    simp only [execOp, Sem.run_bind, hrun, Result.andThen_ok, Sem.run_pure, Oper.uponIn_value]
    exact hK ρ v' w ⟨Rho.le.refl _, s, hr, Nat.le_refl _, Nat.le_refl _, names_same⟩
  case store n' x y =>
    have hst : ∃ t i, op = .store t x y ∧ P.info? t = some i ∧ n' = i.size := by
      cases op <;> simp only [compileOp] at hop <;> (try (cases hop; done))
      case store t x' y' =>
        split at hop
        · cases hop; exact ⟨t, _, rfl, ‹_›, rfl⟩
        · cases hop
      all_goals (exfalso; revert hop; (repeat' split) <;> (intro hop; cases hop))
    obtain ⟨t, i, rfl, hi, rfl⟩ := hst
    obtain ⟨p, u, hp', hu, hf⟩ := x2_some hx
    unfold fStore at hf
    split at hf
    · rename_i H1 hst
      simp only [Option.some.injEq, Prod.mk.injEq] at hf
      obtain ⟨rfl, rfl⟩ := hf
      obtain ⟨w', hrun, hnow, hsz, hhs⟩ := store_sound s hi (he _ _ hp') (he _ _ hu) hst
      simp only [execOp, Sem.run_bind, hrun, Result.andThen_ok, Sem.run_pure, Oper.uponIn_skip]
      exact hK ρ undef w' ⟨Rho.le.refl _, hnow, .flat rfl, by omega, by omega, names_same⟩
    · cases hf
  case append sh size bytes x y =>
    have hap : ∃ args argTypes t tx e, op = .call ⟨.builtin .append, args, argTypes⟩ ∧ args.toList = [x, y] ∧ argTypes.toList = [t, tx] ∧ P.underlying t = some (.slice e) ∧ ((∃ e', P.underlying tx = some (.slice e')) ∨ P.underlying tx = some .string) ∧
        zeroOk P e = true ∧ 0 < sizeT P e ∧ 0 < bytesT P e ∧ size = sizeT P e ∧ bytes = bytesT P e := by
      cases op <;> simp only [compileOp] at hop <;> (try (cases hop; done))
      case call c =>
        obtain ⟨callee, args, argTypes⟩ := c
        cases callee <;> simp only at hop <;> (try (cases hop; done))
        rename_i b
        split at hop
        · split at hop <;> cases hop
        · cases hop
        · cases hop
        · rename_i s1 x1 t tx ha ht
          split at hop
          · rename_i e e' hu1 hu2
            split at hop
            · rename_i hc
              simp only [Bool.and_eq_true, decide_eq_true_eq] at hc
              cases hop
              exact ⟨args, argTypes, t, tx, e, rfl, ha, ht, hu1, .inl ⟨_, hu2⟩, hc.1.1, hc.1.2, hc.2, rfl, rfl⟩
            · cases hop
          · rename_i e hu1 hu2
            split at hop
            · rename_i hc
              simp only [Bool.and_eq_true, decide_eq_true_eq] at hc
              cases hop
              exact ⟨args, argTypes, t, tx, e, rfl, ha, ht, hu1, .inr hu2, hc.1.1, hc.1.2, hc.2, rfl, rfl⟩
            · cases hop
          · cases hop
        · split at hop
          · split at hop <;> cases hop
          · cases hop
        · cases hop
      all_goals (exfalso; revert hop; (repeat' split) <;> (intro hop; cases hop))
    obtain ⟨args, argTypes, t, tx, e, rfl, ha, ht, hu1, hu2, hz, h1, h2, rfl, rfl⟩ := hap
    obtain ⟨p, u, hp', hu, hf⟩ := x2_some hx
    obtain ⟨ρ', v', w', hrun, hd⟩ := append_sound (P := P) (ty := type) s hu1 hu2 hz h1 h2 (he _ _ hp') (he _ _ hu) hf
    have e1 : args.map a.eval = #[a.eval x, a.eval y] := by apply Array.ext'; simp [ha]
    have e2 : argTypes = #[t, tx] := by apply Array.ext'; simp [ht]
    have hb := exec_builtin (ρv := a.eval) (b := .append) (args := args) (argTypes := argTypes) (type := type) (dst := dst) (pos := pos) (after := after) (guard := guard) (s := Builtin.append_ argTypes type (args.map a.eval)) (fun _ => rfl)
    rw [hb]
    simp only [e1, e2, Sem.run_bind, hrun, Result.andThen_ok, Sem.run_pure, Oper.uponIn_value]
    exact hK _ _ _ hd
  case copy size x y =>
    have hap : ∃ args argTypes t tx e, op = .call ⟨.builtin .copy, args, argTypes⟩ ∧ args.toList = [x, y] ∧ argTypes.toList = [t, tx] ∧ P.underlying t = some (.slice e) ∧ (P.info? e).isSome = true ∧ size = sizeT P e := by
      cases op <;> simp only [compileOp] at hop <;> (try (cases hop; done))
      case call c =>
        obtain ⟨callee, args, argTypes⟩ := c
        cases callee <;> simp only at hop <;> (try (cases hop; done))
        rename_i b
        split at hop
        · split at hop <;> cases hop
        · cases hop
        · cases hop
        · split at hop
          · split at hop <;> cases hop
          · split at hop <;> cases hop
          · cases hop
        · rename_i d1 s1 t tx ha ht
          split at hop
          · rename_i e hu1
            split at hop
            · rename_i hc
              simp only [Bool.and_eq_true, decide_eq_true_eq] at hc
              cases hop
              exact ⟨args, argTypes, t, tx, e, rfl, ha, ht, hu1, hc.1, rfl⟩
            · cases hop
          · cases hop
        · cases hop
      all_goals (exfalso; revert hop; (repeat' split) <;> (intro hop; cases hop))
    obtain ⟨args, argTypes, t, tx, e, rfl, ha, ht, hu1, h1, rfl⟩ := hap
    obtain ⟨p, u, hp', hu, hf⟩ := x2_some hx
    obtain ⟨ρ', v', w', hrun, hd⟩ := copy_sound (P := P) (ty := type) (tx := tx) s hu1 h1 (he _ _ hp') (he _ _ hu) hf
    have e1 : args.map a.eval = #[a.eval x, a.eval y] := by apply Array.ext'; simp [ha]
    have e2 : argTypes = #[t, tx] := by apply Array.ext'; simp [ht]
    have hb := exec_builtin (ρv := a.eval) (b := .copy) (args := args) (argTypes := argTypes) (type := type) (dst := dst) (pos := pos) (after := after) (guard := guard) (s := Builtin.copy_ argTypes type (args.map a.eval)) (fun _ => rfl)
    rw [hb]
    simp only [e1, e2, Sem.run_bind, hrun, Result.andThen_ok, Sem.run_pure, Oper.uponIn_value]
    exact hK _ _ _ hd
  case call f args =>
    have hca : ∃ as_ argTypes, op = .call ⟨.value f, as_, argTypes⟩ ∧ as_.toList = args := by
      cases op <;> simp only [compileOp] at hop <;> (try (cases hop; done))
      case call c =>
        obtain ⟨callee, as_, argTypes⟩ := c
        cases callee <;> simp only at hop <;> (try (cases hop; done))
        · cases hop; exact ⟨as_, argTypes, rfl, rfl⟩
        · exfalso; revert hop; (repeat' split) <;> (intro hop; cases hop)
      all_goals (exfalso; revert hop; (repeat' split) <;> (intro hop; cases hop))
    obtain ⟨as_, argTypes, rfl, rfl⟩ := hca
    simp only [aexec, xCall] at hx
    split at hx
    · rename_i fv vs hf hvs
      obtain ⟨nx, hrun, hu⟩ := hcall _ _ _ _ _ hx X w0 ρ w _ _ (he _ _ hf) (he.evs hvs) s
      have hex : (execOp a.eval ⟨dst, .call ⟨.value f, as_, argTypes⟩, type, pos, after, guard⟩).run P w = .ok nx w := by
        have e1 : (as_.toList.map a.eval).toArray = as_.map a.eval := by apply Array.ext'; simp
        rw [e1] at hrun
        simpa only [execOp, resolve] using hrun
      rw [hex]
      exact upon_next (hu r (n - 1)) fun v' w' ⟨ρ', hd⟩ => hK ρ' v' w' hd
    · cases hx
end
end Go.Proofs.Ytdbehmepikhghaa.AM
