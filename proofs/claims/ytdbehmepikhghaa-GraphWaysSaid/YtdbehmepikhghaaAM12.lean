/- Code, calls and rounds: all that the evaluator comes to is what the model comes to. -/
import Derived.Test.YtdbehmepikhghaaAM11
set_option linter.unusedVariables false
set_option linter.unusedSimpArgs false
namespace Go.Proofs.Ytdbehmepikhghaa.AM
section
variable {P : Program} {V : Type → Type} [Vec V]

def CallsOk (P : Program) (f : FuncId) (args : List Value) (H : AH V) (v : Value) (H' : AH V) : Prop :=
  (∃ fn c, P.funcs[f]? = some fn ∧ fn.body = some c ∧ (fn.name == "runtime.NumGoroutine") = false) ∧
  ∀ (X : Nat → Option Obj) (w0 : World) (ρ : Rho) (w : World) (args' : List Value), VRels ρ args args' → Now P X w0 ρ H w →
    ∀ r n, CallsIn (FW r) n P f args'.toArray w (OnlyReturns fun v' w' => ∃ ρ', Did P X w0 ρ H H' w v ρ' v' w')
def RoundOk (P : Program) (l : Nat) (args : List Value) (H : AH V) (v : Value) (H' : AH V) : Prop :=
  ∀ (X : Nat → Option Obj) (w0 : World) (ρ : Rho) (w : World) (args' : List Value) (cl co : Nat), ρ l = some (cl, co) → VRels ρ args args' → Now P X w0 ρ H w →
    ∃ nx, (Instr.yield cl args'.toArray).run P w = .ok nx w ∧ ∀ r n, Upon r n P w (fun v' w' => ∃ ρ', Did P X w0 ρ H H' w v ρ' v' w') nx
structure CtxOk (P : Program) (keep : List Nat) (inR : Bool) (T : AT) (H : AH V) (ds : List Nat) (X : Nat → Option Obj) (w0 : World) (ρ : Rho) (w : World) (a : Act) (nt : Nat) (r : Option Nat) : Prop where
  out : inR = false → r = none
  tmps : TRel ρ keep T a.tmps
  now : Now P X w0 ρ H w
  nt : nt ≤ a.tmps.size
  defers : DRel ρ ds a.defers
def CodeOk (P : Program) (inR : Bool) (c : ACode) (T : AT) (H : AH V) (ds : List Nat) (res : Res V) : Prop :=
  ∀ (share : Bool) (keep : List Nat) (cc : Code), c = compile P share keep cc → ∀ (X : Nat → Option Obj) (w0 : World) (ρ : Rho) (w : World) (a : Act) (nt : Nat) (r : Option Nat) (n : Nat), cOk nt cc = true →
    CtxOk P keep inR T H ds X w0 ρ w a nt r → cc.wpIn (FW r) n P (Post P X w0 ρ H w keep nt res.e res.T res.H res.ds) a w
/-- Inside a loop, at its body's begin. -/
def LoopIn (F : Fence) (n : Nat) (P : Program) (c : Code) (Q : Exit → Act → World → Prop) (a : Act) (w : World) : Prop :=
  ∀ (b : Frame) (k : List Item) (cs : List Frame), b.roundOf = F.round → F.fn b.fn → F.room (cs.length + 1 + n) →
    ∃ e a' w', Q e a' w' ∧ ArrivesIn (Machine.fenced P F) P (lone (b.atR a (.code c :: .inLoop c :: k)) cs w) b k cs e a' w'
def LoopOk (P : Program) (inR : Bool) (c : ACode) (T : AT) (H : AH V) (ds : List Nat) (res : Res V) : Prop :=
  ∀ (share : Bool) (keep : List Nat) (cc : Code), c = compile P share keep cc → ∀ (X : Nat → Option Obj) (w0 : World) (ρ : Rho) (w : World) (a : Act) (nt : Nat) (r : Option Nat) (n : Nat), cOk nt cc = true →
    CtxOk P keep inR T H ds X w0 ρ w a nt r → LoopIn (FW r) n P cc (Post P X w0 ρ H w keep nt res.e res.T res.H res.ds) a w
def ScopeOk (P : Program) (inR : Bool) (b cur : ACode) (T : AT) (H : AH V) (ds : List Nat) (res : Res V) : Prop :=
  ∀ (share : Bool) (keep : List Nat) (cb cc : Code), b = compile P share keep cb → cur = compile P share keep cc → ∀ (X : Nat → Option Obj) (w0 : World) (ρ : Rho) (w : World) (a : Act) (nt : Nat) (r : Option Nat) (n : Nat), cOk nt cb = true → cOk nt cc = true →
    CtxOk P keep inR T H ds X w0 ρ w a nt r → ScopeIn (FW r) n P cb cc (Post P X w0 ρ H w keep nt res.e res.T res.H res.ds) a w
structure AllOk (E : Env V) (N : Nat) : Prop where
  code : ∀ inR c T H ds res, arun E N (.code inR c T H ds) = some res → CodeOk E.P inR c T H ds res
  loop : ∀ inR c T H ds res, arun E N (.code inR (.loop c) T H ds) = some res → LoopOk E.P inR c T H ds res
  scope : ∀ inR b cur T H ds res, arun E N (.scope inR b cur T H ds) = some res → ScopeOk E.P inR b cur T H ds res
  call : ∀ f args H res, arun E N (.call f args H) = some res → CallsOk E.P f args H res.v res.H
  round : ∀ l args H res, arun E N (.round l args H) = some res → RoundOk E.P l args H res.v res.H
/-- What is asked of a region that draws its order. -/
def DrawOk (P : Program) (V : Type → Type) [Vec V] : Prop :=
  ∀ (share : Bool) (keep : List Nat) (ops : Array Oper) (al : List AOper) (back : List (Nat × Src)) (call : Value → List Value → AH V → Option (Value × AH V)) (id nt : Nat) (r : Option Nat) (n : Nat) (a : Act) (ds : List Nat) (res : Res V)
    (X : Nat → Option Obj) (w0 : World) (ρ : Rho) (H : AH V) (w : World) (T : AT), CallOk P call → compileRegion P share keep ops true = .draw al back → sRegion T back ds (adraw P call T al [H] [] H) = some res →
    TRel ρ keep T a.tmps → Now P X w0 ρ H w → nt ≤ a.tmps.size → (ops.toList.all fun o => match o.dst with | some d => Nat.blt d nt | none => true) = true → DRel ρ ds a.defers →
    (Code.region id ops true).wpIn (FW r) n P (Post P X w0 ρ H w keep nt res.e res.T res.H res.ds) a w
structure EnvOk (E : Env V) : Prop where
  fn : ∀ f fn, E.fn f = some fn → ∃ share, compileFn E.P share f = some fn
  ext : ∀ f args H v H', E.ext f args H = some (v, H') → CallsOk E.P f args H v H'
  draw : DrawOk E.P V

variable {X : Nat → Option Obj} {w0 w w1 : World} {ρ ρ1 : Rho} {H H1 H2 : AH V} {keep : List Nat} {nt : Nat} {F : Fence} {n : Nat} {Q : Exit → Act → World → Prop} {a : Act}
theorem Post.trans {e : AE} {T' : AT} {H' : AH V} {ds' : List Nat} {ex : Exit} {a' : Act} {w' : World} (g : Gone P X w0 ρ H w ρ1 H1 w1) (h : Post P X w0 ρ1 H1 w1 keep nt e T' H' ds' ex a' w') : Post P X w0 ρ H w keep nt e T' H' ds' ex a' w' :=
  let ⟨h1, ρ', h2, h3⟩ := h; ⟨h1, ρ', g.trans h2, h3⟩

theorem loopIn_of {c : Code} (h : c.wpIn F n P (Exit.then (LoopIn F n P c Q) Q) a w) : LoopIn F n P c Q a w := by
  intro b k cs hro hb hr
  obtain ⟨e, a₁, w₁, hq, harr⟩ := h b (.inLoop c :: k) cs hro hb hr
  cases e with
  | normal =>
    obtain ⟨e₂, a₂, w₂, hq₂, harr₂⟩ := hq b k cs hro hb hr
    exact ⟨e₂, a₂, w₂, hq₂, .of_steps (StepsIn.trans harr (.one (fenced_calm hb hr rfl) stepR_inLoop)) harr₂⟩
  | exit id => exact ⟨_, a₁, w₁, hq, .pass (x := .inLoop c) rfl (fun _ _ => .inl (by simp)) harr⟩
  | goto l => exact ⟨_, a₁, w₁, hq, .pass (x := .inLoop c) rfl (fun _ _ => .inl (by simp)) harr⟩
  | ret => exact ⟨_, a₁, w₁, hq, .pass (x := .inLoop c) rfl (fun _ _ => .inl (by simp)) harr⟩
  | panic ch => exact ⟨_, a₁, w₁, hq, .pass (x := .inLoop c) rfl (fun _ _ => .inl (by simp)) harr⟩
  | outgrown => exact ⟨_, a₁, w₁, hq, .pass (x := .inLoop c) rfl (fun _ _ => .inl (by simp)) harr⟩
theorem wpIn_loop_of {c : Code} (h : LoopIn F n P c Q a w) : (Code.loop c).wpIn F n P Q a w := fun b k cs hro hb hr =>
  let ⟨e, a', w', q, r⟩ := h b k cs hro hb hr
  ⟨e, a', w', q, .of_steps (.one (fenced_calm hb hr rfl) stepR_loop) r⟩
theorem wpIn_code (e : AE) (h : Q e.exit' a w) : (AE.code e).wpIn F n P Q a w := by
  cases e with
  | norm => exact wpIn_skip h
  | exit id => exact wpIn_exit h
  | goto l => exact wpIn_goto h
  | ret => exact wpIn_ret h

/-- Behind a first part. -/
theorem then_post {rec : Task V → Option (Res V)} {inR : Bool} {b : ACode} {res1 res : Res V} {r : Option Nat} (hr : sSeq rec inR b (some res1) = some res) {K : Act → World → Prop}
    (hout : inR = false → r = none)
    (hK : ∀ ρ1 a1 w1, rec (.code inR b res1.T res1.H res1.ds) = some res → Gone P X w0 ρ H w ρ1 res1.H w1 → CtxOk P keep inR res1.T res1.H res1.ds X w0 ρ1 w1 a1 nt r → K a1 w1) :
    ∀ ex a1 w1, Post P X w0 ρ H w keep nt res1.e res1.T res1.H res1.ds ex a1 w1 → Exit.then K (Post P X w0 ρ H w keep nt res.e res.T res.H res.ds) ex a1 w1 := by
  intro ex a1 w1 hp
  obtain ⟨e, T1, H1, ds1, v1⟩ := res1
  obtain ⟨hex, ρ1, hg, ht, hnt, hd⟩ := hp
  subst hex
  cases e with
  | norm => exact hK ρ1 a1 w1 hr hg ⟨hout, ht, hg.now, hnt, hd⟩
  | exit id => simp only [sSeq, Option.some.injEq] at hr; subst hr; exact ⟨rfl, ρ1, hg, ht, hnt, hd⟩
  | goto l => simp only [sSeq, Option.some.injEq] at hr; subst hr; exact ⟨rfl, ρ1, hg, ht, hnt, hd⟩
  | ret => simp only [sSeq, Option.some.injEq] at hr; subst hr; exact ⟨rfl, ρ1, hg, ht, hnt, hd⟩
theorem sSeq_some {W : Type → Type} {rec : Task W → Option (Res W)} {inR : Bool} {b : ACode} {r : Option (Res W)} {res : Res W} (h : sSeq rec inR b r = some res) : ∃ res1, r = some res1 := by
  cases r with
  | none => cases h
  | some r => exact ⟨r, rfl⟩

/-! ### Calls -/
theorem yield_none {l : Nat} {args' : List Value} : (do let d ← Deferred.ofValue (.func (.yield l) #[] #[]) args'.toArray; invoke d.target d.args : Sem Next) = Instr.yield l args'.toArray := by
  simp only [Deferred.ofValue, invoke]
  show Instr.yield l (#[] ++ args'.toArray) = _
  rw [Array.empty_append]
theorem callOk_of {E : Env V} {N : Nat} (ih : AllOk E N) : CallOk E.P (acallV (arun E N)) := by
  intro fv args H v H' hc X w0 ρ w fv' args' hf ha hn
  unfold acallV at hc
  split at hc
  · rename_i f first captured
    split at hc
    · rename_i e T H2 ds v2 hr
      simp only [Option.some.injEq, Prod.mk.injEq] at hc
      obtain ⟨rfl, rfl⟩ := hc
      obtain ⟨⟨fn, c, h1, h2, h3⟩, h4⟩ := ih.call _ _ _ _ hr
      obtain ⟨a', c', rfl, hra, hrc⟩ := hf.fn_inv
      have hq := h4 X w0 ρ w (a'.toList ++ args' ++ c'.toList) ((hra.append ha).append hrc) hn
      have ea : (a'.toList ++ args' ++ c'.toList).toArray = a' ++ args'.toArray ++ c' := by apply Array.ext'; simp
      rw [ea] at hq
      exact ⟨.enter f (a' ++ args'.toArray ++ c'), by
        simp only [Deferred.ofValue, Sem.run_bind, Sem.run_pure, Result.andThen_ok, invoke]
        have h5 : fn.name ≠ "runtime.NumGoroutine" := by simpa using h3
        simp [callFunc, h1, h5, h2], hq⟩
    · cases hc
  · rename_i l
    split at hc
    · rename_i e T H2 ds v2 hr
      simp only [Option.some.injEq, Prod.mk.injEq] at hc
      obtain ⟨rfl, rfl⟩ := hc
      have : ∃ cl co, ρ l = some (cl, co) ∧ fv' = .func (.yield cl) #[] #[] := by
        cases hf with
        | flat hff => simp [flat, flat1] at hff
        | yld h => exact ⟨_, _, h, rfl⟩
      obtain ⟨cl, co, hρ, rfl⟩ := this
      obtain ⟨nx, h1, h2⟩ := ih.round _ _ _ _ hr X w0 ρ w args' cl co hρ ha hn
      exact ⟨nx, by rw [yield_none]; exact h1, h2⟩
    · cases hc
  · cases hc
end
end Go.Proofs.Ytdbehmepikhghaa.AM
