/- Scopes, loops over functions, results: the single steps. -/
import Derived.Test.YtdbehmepikhghaaAM10
import Derived.RangeFuncLeaves
set_option linter.unusedVariables false
set_option linter.unusedSimpArgs false
namespace Go.Proofs.Ytdbehmepikhghaa.AM
section
variable {P : Program} {X : Nat → Option Obj} {w0 w w1 w2 : World} {ρ ρ1 ρ2 : Rho} {V : Type → Type} [Vec V] {H H1 H2 : AH V} {T L : List Value} {h : Nat → Blk}
  {share : Bool} {keep : List Nat} {F : Fence} {n : Nat} {Q : Exit → Act → World → Prop} {a : Act}

/-! ### Scopes -/
theorem stepR_scope {b : Frame} {a : Act} {k : List Item} {cs : List Frame} {c : Code} : step P (lone (b.atR a (.code (.scope c) :: k)) cs w) = .next (lone (b.atR a (.code c :: .inScope c :: k)) cs w) :=
  step_lone_go (by simp [stepG, stepG.exec, Frame.atR])
theorem stepR_inScope {b : Frame} {a : Act} {k : List Item} {cs : List Frame} {c : Code} : step P (lone (b.atR a (.inScope c :: k)) cs w) = .next (lone (b.atR a k) cs w) :=
  step_lone_go (by simp [stepG, stepG.exec, Frame.atR])
/-- A piece of a scope's code, in the scope. -/
def ScopeIn (F : Fence) (n : Nat) (P : Program) (c cur : Code) (Q : Exit → Act → World → Prop) (a : Act) (w : World) : Prop :=
  ∀ (b : Frame) (k : List Item) (cs : List Frame), b.roundOf = F.round → F.fn b.fn → F.room (cs.length + 1 + n) →
    ∃ e a' w', Q e a' w' ∧ ArrivesIn (Machine.fenced P F) P (lone (b.atR a (.code cur :: .inScope c :: k)) cs w) b k cs e a' w'
theorem wpIn_scope_of {c : Code} (h : ScopeIn F n P c c Q a w) : (Code.scope c).wpIn F n P Q a w := fun b k cs hro hb hr =>
  let ⟨e, a', w', q, r⟩ := h b k cs hro hb hr
  ⟨e, a', w', q, .of_steps (.one (fenced_calm hb hr rfl) stepR_scope) r⟩
/-- On with what is behind a label of the scope's. -/
def Exit.inScope' (F : Fence) (n : Nat) (P : Program) (c : Code) (Q : Exit → Act → World → Prop) : Exit → Act → World → Prop
  | .goto l, a, w => match findLabel c l with
    | some rest => ScopeIn F n P c rest Q a w
    | none => Q (.goto l) a w
  | e, a, w => Q e a w
theorem scopeIn_of {c cur : Code} (h : cur.wpIn F n P (Exit.inScope' F n P c Q) a w) : ScopeIn F n P c cur Q a w := by
  intro b k cs hro hb hr
  obtain ⟨e, a1, w1, hq, harr⟩ := h b (.inScope c :: k) cs hro hb hr
  cases e with
  | normal => exact ⟨.normal, a1, w1, hq, StepsIn.trans harr (.one (fenced_calm hb hr rfl) stepR_inScope)⟩
  | exit id =>
    have hx : exitTo id (.inScope c :: k) = exitTo id k := by simp [exitTo]
    exact ⟨.exit id, a1, w1, hq, fun k' hk => harr.1 k' (by rw [hx]; exact hk), fun hr' hk => harr.2 hr' (by rw [hx]; exact hk)⟩
  | goto l =>
    simp only [Exit.inScope'] at hq
    split at hq
    · rename_i rest hf
      obtain ⟨e2, a2, w2, hq2, harr2⟩ := hq b k cs hro hb hr
      exact ⟨e2, a2, w2, hq2, .of_steps (harr.1 _ (by simp [gotoIn, hf])) harr2⟩
    · rename_i hf
      have hx : gotoIn l (.inScope c :: k) = gotoIn l k := by simp [gotoIn, hf]
      exact ⟨.goto l, a1, w1, hq, fun k' hk => harr.1 k' (by rw [hx]; exact hk), fun hr' hk => harr.2 hr' (by rw [hx]; exact hk)⟩
  | ret => exact ⟨_, a1, w1, hq, harr⟩
  | panic ch => exact ⟨_, a1, w1, hq, harr⟩
  | outgrown => exact ⟨_, a1, w1, hq, harr⟩
theorem afind_compile (P : Program) (share : Bool) (keep : List Nat) (l : Nat) : ∀ (c : Code), afind (compile P share keep c) l = (findLabel c l).map (compile P share keep)
  | .seq a b => by
    simp only [compile, afind, findLabel, afind_compile P share keep l a, afind_compile P share keep l b]
    cases findLabel a l <;> rfl
  | .label l' => by
    simp only [compile, afind, findLabel]
    split <;> rfl
  | .skip => rfl
  | .region id ops d => by
    rw [show findLabel (.region id ops d) l = none from rfl]
    simp only [compile, compileRegion]
    (repeat' split) <;> rfl
  | .cond c a b => by
    rw [show findLabel (.cond c a b) l = none from rfl]
    simp only [compile]
    split <;> rfl
  | .block _ _ => rfl
  | .loop _ => rfl
  | .rangeFunc g ps a b => by
    rw [show findLabel (.rangeFunc g ps a b) l = none from rfl]
    simp only [compile]
    split <;> rfl
  | .exit _ => rfl
  | .scope _ => rfl
  | .goto _ => rfl
  | .ret => rfl
  | .refuse _ => rfl
theorem cOk_find {nt l : Nat} : ∀ {c r : Code}, findLabel c l = some r → cOk nt c = true → cOk nt r = true
  | .seq a b, r, h, hc => by
    simp only [cOk, Bool.and_eq_true] at hc
    simp only [findLabel] at h
    split at h
    · rename_i rest hr
      injection h with h
      subst h
      simp only [cOk, Bool.and_eq_true]
      exact ⟨cOk_find hr hc.1, hc.2⟩
    · exact cOk_find h hc.2
  | .label l', r, h, hc => by
    simp only [findLabel] at h
    split at h
    · injection h with h; subst h; rfl
    · cases h
  | .skip, r, h, _ => by cases h
  | .region .., r, h, _ => by cases h
  | .cond .., r, h, _ => by cases h
  | .block .., r, h, _ => by cases h
  | .loop .., r, h, _ => by cases h
  | .rangeFunc .., r, h, _ => by cases h
  | .exit .., r, h, _ => by cases h
  | .scope .., r, h, _ => by cases h
  | .goto .., r, h, _ => by cases h
  | .ret, r, h, _ => by cases h
  | .refuse .., r, h, _ => by cases h

/-! ### Records of loops -/
def setBlk (w : World) (r : Nat) (o : Obj) : World := { w with heap := w.heap.setIfInBounds r o }
theorem setBlk_get (w : World) {r : Nat} (o : Obj) (hr : r < w.heap.size) (k : Nat) : (setBlk w r o).heap[k]? = if k = r then some o else w.heap[k]? := by
  simp only [setBlk, Array.getElem?_setIfInBounds]
  by_cases e : r = k
  · subst e; rw [if_pos rfl, if_pos rfl, if_pos hr]
  · rw [if_neg e, if_neg (fun x => e x.symm)]
def isMark : Blk → Prop
  | .loop .. => True
  | .defr => True
  | _ => False
theorem St.turn (s : St P X w0 ρ h w) {b cb co : Nat} (hp : ρ b = some (cb, co)) (hm : isMark (h b)) (o : Obj) {B : Blk} (hB : BRel P X ρ (setBlk w cb o) (cb, co) B) (hk : isMark B ∨ B = .dead) : St P X w0 ρ (setB h b B) (setBlk w cb o) := by
  have hlt := s.dom b _ hp
  have hblk := s.blk b _ hp
  have hX : X cb = none := by
    cases hh : h b with
    | loop => rw [hh] at hblk; exact hblk.1
    | defr => rw [hh] at hblk; exact hblk.1
    | dead => rw [hh] at hm; exact hm.elim
    | arr => rw [hh] at hm; exact hm.elim
  refine s.change hp hX B rfl rfl rfl (by simp [setBlk]) (fun k hk => by rw [setBlk_get w o hlt, if_neg hk]) hB (fun b' p' hne hp' hq => ?_) (fun cs lo hb => ?_)
  · have hd : h b' = .dead := by
      have := s.sep b b' _ _ (Ne.symm hne) hp hp' hq.symm
      cases hh : h b with
      | loop => rw [hh] at this; exact this
      | defr => rw [hh] at this; exact this
      | dead => rw [hh] at hm; exact hm.elim
      | arr => rw [hh] at hm; exact hm.elim
    rw [hd]
    refine ⟨trivial, ?_, trivial, fun _ _ hf => by cases hf⟩
    cases B with
    | loop => rfl
    | defr => rfl
    | dead => trivial
    | arr => rcases hk with hk | hk <;> cases hk
  · subst hb
    rcases hk with hk | hk <;> cases hk
theorem run_getLoop {cl : Nat} {r : Loop} (hr : w.heap[cl]? = some (.loop r)) : (Instr.getLoop cl).run P w = .ok r w := by
  simp [Instr.getLoop, getObj, Sem.run, hr]
theorem run_setLoop {cl : Nat} {r : Loop} (hr : w.heap[cl]? = some (.loop r)) (o : Obj) : (setObj cl o).run P w = .ok () (setBlk w cl o) := by
  simp [setObj, Sem.run, hr, setBlk]
theorem run_beginRound {cl : Nat} {r : Loop} (hr : w.heap[cl]? = some (.loop r)) (hs : r.state = .ready) : (Instr.beginRound cl).run P w = .ok () (setBlk w cl (.loop { r with state := .busy })) := by
  simp only [Instr.beginRound, Sem.run_bind, run_getLoop hr, Result.andThen_ok, run_setLoop hr, hs, Sem.run_pure]
theorem run_endRound {cl : Nat} {r : Loop} (hr : w.heap[cl]? = some (.loop r)) (j : Option Code) :
    (Instr.endRound cl j).run P w = .ok (.bool j.isNone) (setBlk w cl (.loop { r with state := if j.isNone then .ready else .done, pending := j })) := by
  simp only [Instr.endRound, Sem.run_bind, run_getLoop hr, Result.andThen_ok, run_setLoop hr, Sem.run_pure]
theorem run_endLoop {cl : Nat} {r : Loop} (hr : w.heap[cl]? = some (.loop r)) (hs : r.state ≠ .busy) :
    (Instr.endLoop cl).run P w = .ok r.pending (setBlk w cl (.loop { r with state := .exhausted })) := by
  have : (r.state == .busy) = false := by
    cases hq : r.state <;> first | rfl | exact absurd hq hs
  simp only [Instr.endLoop, Sem.run_bind, run_getLoop hr, Result.andThen_ok, this, Bool.false_eq_true, if_false, run_setLoop hr, Sem.run_pure]
theorem run_take {cb : Nat} (hr : w.heap[cb]? = some (.deferred (some []))) : (Instr.takeDeferred cb).run P w = .ok [] (setBlk w cb (.deferred none)) := by
  simp [Instr.takeDeferred, getObj, setObj, Sem.run, hr, setBlk]

/-! ### Parameters -/
theorem TRel.set1 {tmps : Array Value} (hT : TRel ρ keep T tmps) {t : Nat} {v v' : Value} (hv : VRel ρ v v') :
    TRel ρ keep (match keep.idxOf? t with | some p => T.set p v | none => T) (tmps.setIfInBounds t v') := by
  intro t' i hi
  obtain ⟨u, u', h1, h2, h3⟩ := hT t' i hi
  by_cases e : t = t'
  · subst e
    rw [hi]
    refine ⟨v, v', ?_, ?_, hv⟩
    · simp only
      rw [List.getElem?_set_self (List.getElem?_eq_some_iff.1 h1).1]
    · rw [Array.getElem?_setIfInBounds, if_pos rfl, if_pos (Array.getElem?_eq_some_iff.1 h2).1]
  · refine ⟨u, u', ?_, ?_, h3⟩
    · split
      · rename_i p hp
        have hpi : p ≠ i := fun e2 => by
          subst e2
          have q1 := idx_get hp
          have q2 := idx_get hi
          rw [q1] at q2
          injection q2 with q2
          exact e q2
        rw [List.getElem?_set_ne hpi]
        exact h1
      · exact h1
    · rw [Array.getElem?_setIfInBounds, if_neg e]
      exact h2
theorem setParams_rel : ∀ {ps : List Nat} {T T1 : List Value} {tmps : Array Value} {args args' : List Value}, TRel ρ keep T tmps → VRels ρ args args' → setParams T (ps.map fun t => keep.idxOf? t) args = some T1 →
    args'.length = ps.length ∧ TRel ρ keep T1 ((ps.zip args').foldl (fun tmps (t, a) => tmps.setIfInBounds t a) tmps) ∧ ((ps.zip args').foldl (fun tmps (t, a) => tmps.setIfInBounds t a) tmps).size = tmps.size
  | [], T, T1, tmps, args, args', hT, hv, h => by
    cases hv with
    | nil => simp [setParams] at h; subst h; exact ⟨rfl, hT, rfl⟩
    | cons _ _ => simp [setParams] at h
  | t :: ps, T, T1, tmps, args, args', hT, hv, h => by
    cases hv with
    | nil =>
      simp only [List.map_cons] at h
      cases hk : keep.idxOf? t <;> rw [hk] at h <;> simp [setParams] at h
    | @cons v v' l l' hv ht =>
      have h1 := hT.set1 (t := t) hv
      have key : setParams (match keep.idxOf? t with | some p => T.set p v | none => T) (ps.map fun t => keep.idxOf? t) l = some T1 := by
        simp only [List.map_cons] at h
        cases hk : keep.idxOf? t <;> rw [hk] at h <;> simpa only [setParams] using h
      obtain ⟨q1, q2, q3⟩ := setParams_rel h1 ht key
      exact ⟨by simp [q1], q2, by rw [List.zip_cons_cons, List.foldl_cons, q3]; simp⟩

/-! ### Results -/
def resOne (tmps : Array Value) : ResultVar → Sem Value
  | .tmp t => pure (tmps.getD t undef)
  | .cell a t => do loadVar t (← asAddr (tmps.getD a undef))
theorem results_eq (fn : Func) (tmps : Array Value) : results fn tmps = (do let vs ← fn.results.mapM (resOne tmps); pure (if h : vs.size = 1 then vs[0] else .tuple vs)) := by
  unfold results
  congr 1
def aresOne (T : AT) (H : AH V) : ARes → Option Value
  | .tmp t => T[t]?
  | .cell t n => x1 (aload H n) (T[·]?) t
theorem res_one (s : Now P X w0 ρ H w) {tmps : Array Value} (hT : TRel ρ keep T tmps) {rv : ResultVar} {ar : ARes} (hc : compileRes P keep rv = some ar) {v : Value} (hv : aresOne T H ar = some v) :
    ∃ v', VRel ρ v v' ∧ (resOne tmps rv).run P w = .ok v' w := by
  cases rv with
  | tmp t =>
    simp only [compileRes] at hc
    cases hk : keep.idxOf? t with
    | none => rw [hk] at hc; cases hc
    | some i =>
      rw [hk] at hc
      injection hc with hc
      subst hc
      obtain ⟨u, u', h1, h2, h3⟩ := hT t i hk
      simp only [aresOne] at hv
      rw [h1] at hv
      cases hv
      exact ⟨u', h3, by simp [resOne, Array.getD_eq_getD_getElem?, h2]⟩
  | cell c t =>
    simp only [compileRes] at hc
    split at hc
    · rename_i i n hk hn
      injection hc with hc
      subst hc
      simp only [aresOne] at hv
      obtain ⟨p, hp, hl⟩ := x1_some hv
      obtain ⟨u, u', h1, h2, h3⟩ := hT c i hk
      skip
      rw [h1] at hp
      cases hp
      obtain ⟨v', hr, hrun⟩ := load_sound (P := P) s.st hn h3 (fun b B _ hb => view_some hb) hl
      refine ⟨v', hr, ?_⟩
      have hu : tmps.getD c undef = u' := by simp [Array.getD_eq_getD_getElem?, h2]
      unfold aload at hl
      split at hl
      case h_2 => cases hl
      obtain ⟨b', o', cb, co, hq, hρ, rfl⟩ := h3.ptr_some
      simpa only [resOne, hu, asAddr, Instr.loadAt, Instr.sureAddr, Sem.run_bind, Sem.run_pure, Result.andThen_ok] using hrun
    · cases hc
theorem res_all (s : Now P X w0 ρ H w) {tmps : Array Value} (hT : TRel ρ keep T tmps) : ∀ {rvs : List ResultVar} {ars : List ARes} {vs : List Value}, mapOpt (compileRes P keep) rvs = some ars → ares T H ars = some vs →
    ∃ vs', VRels ρ vs vs' ∧ (rvs.mapM (resOne tmps)).run P w = .ok vs' w
  | [], ars, vs, hc, hv => by
    simp only [mapOpt, Option.some.injEq] at hc
    subst hc
    simp only [ares, Option.some.injEq] at hv
    subst hv
    exact ⟨[], .nil, rfl⟩
  | rv :: rvs, ars, vs, hc, hv => by
    unfold mapOpt at hc
    split at hc
    · rename_i ar h1
      split at hc
      · rename_i ars' h2
        injection hc with hc
        subst hc
        simp only [ares] at hv
        split at hv
        · rename_i v hv1
          split at hv
          · rename_i vs1 hv2
            injection hv with hv
            subst hv
            obtain ⟨v', q1, q2⟩ := res_one s hT h1 (show aresOne T H ar = some v by cases ar <;> exact hv1)
            obtain ⟨vs', q3, q4⟩ := res_all s hT h2 hv2
            refine ⟨v' :: vs', .cons q1 q3, ?_⟩
            rw [List.mapM_cons, Sem.run_bind, q2, Result.andThen_ok, Sem.run_bind, q4, Result.andThen_ok]
            rfl
          · cases hv
        · cases hv
      · cases hc
    · cases hc
theorem pack_rel {vs vs' : List Value} (h : VRels ρ vs vs') : VRel ρ (pack vs) (if h : vs'.toArray.size = 1 then vs'.toArray[0] else .tuple vs'.toArray) := by
  cases h with
  | nil => exact .tup .nil
  | cons h t =>
    cases t with
    | nil => exact h
    | cons h2 t2 => exact .tup (.cons h (.cons h2 t2))
theorem results_sound (s : Now P X w0 ρ H w) {tmps : Array Value} (hT : TRel ρ keep T tmps) {fn : Func} {ars : List ARes} {vs : List Value} (hc : mapOpt (compileRes P keep) fn.results.toList = some ars) (hv : ares T H ars = some vs) :
    ∃ v', VRel ρ (pack vs) v' ∧ (results fn tmps).run P w = .ok v' w := by
  obtain ⟨vs', h1, h2⟩ := res_all s hT hc hv
  refine ⟨_, pack_rel h1, ?_⟩
  rw [results_eq, Array.mapM_eq_mapM_toList, Sem.run_bind, Sem.run_map, h2]
  rfl
end
end Go.Proofs.Ytdbehmepikhghaa.AM
