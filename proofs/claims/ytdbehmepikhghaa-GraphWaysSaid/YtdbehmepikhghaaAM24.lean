/- Contracts over the evaluator: what a task comes to, with fuel enough. -/
import Derived.Test.YtdbehmepikhghaaAM23
set_option linter.unusedVariables false
set_option linter.unusedSimpArgs false
namespace Go.Proofs.Ytdbehmepikhghaa.AM
section
variable {V : Type → Type} [Vec V]
def RLe (r1 r2 : Task V → Option (Res V)) : Prop := ∀ t r, r1 t = some r → r2 t = some r
def CLe (c1 c2 : Value → List Value → AH V → Option (Value × AH V)) : Prop := ∀ f a H x, c1 f a H = some x → c2 f a H = some x
theorem acallV_mono {W : Type → Type} {r1 r2 : Task W → Option (Res W)} (h : RLe r1 r2) : CLe (acallV r1) (acallV r2) := by
  intro fv args H x hx
  unfold acallV at hx ⊢
  split at hx
  · next f first captured =>
    cases hr : r1 (.call f (first.toList ++ args ++ captured.toList) H) with
    | none => rw [hr] at hx; cases hx
    | some r => rw [hr] at hx; rw [h _ _ hr]; exact hx
  · next l =>
    cases hr : r1 (.round l args H) with
    | none => rw [hr] at hx; cases hx
    | some r => rw [hr] at hx; rw [h _ _ hr]; exact hx
  · cases hx
theorem aexec_mono {χ : Type} {P : Program} {c1 c2 : Value → List Value → AH V → Option (Value × AH V)} (h : CLe c1 c2) {op : AOp χ} {ev : χ → Option Value} {H : AH V} {x : Value × AH V} (hx : aexec P c1 op ev H = some x) : aexec P c2 op ev H = some x := by
  cases op <;> try exact hx
  next f args =>
    simp only [aexec, xCall] at hx ⊢
    split at hx
    · next f' a' e1 e2 => exact h _ _ _ _ hx
    · cases hx
theorem aops_mono {P : Program} {c1 c2 : Value → List Value → AH V → Option (Value × AH V)} (h : CLe c1 c2) {T : AT} : ∀ {ops : List AOper} {L : List Value} {H : AH V} {x : List Value × AH V}, aops P c1 T ops L H = some x → aops P c2 T ops L H = some x
  | [], L, H, x, hx => hx
  | o :: r, L, H, x, hx => by
    simp only [aops] at hx ⊢
    cases hw : awanted T L o.g with
    | true =>
      rw [hw] at hx
      simp only at hx ⊢
      cases he : aexec P c1 o.op (sev T L) H with
      | none => rw [he] at hx; cases hx
      | some p => rw [he] at hx; rw [aexec_mono h he]; exact aops_mono h hx
    | false => rw [hw] at hx; exact aops_mono h hx
theorem adraw_mono {P : Program} {c1 c2 : Value → List Value → AH V → Option (Value × AH V)} (h : CLe c1 c2) {T : AT} : ∀ {ops : List AOper} {sn : List (AH V)} {L : List Value} {H : AH V} {x : List Value × AH V}, adraw P c1 T ops sn L H = some x → adraw P c2 T ops sn L H = some x
  | [], sn, L, H, x, hx => hx
  | o :: r, sn, L, H, x, hx => by
    simp only [adraw] at hx ⊢
    cases hw : awanted T L o.g with
    | true =>
      rw [hw] at hx
      simp only at hx ⊢
      cases he : aexec P c1 o.op (sev T L) H with
      | none => rw [he] at hx; cases hx
      | some p =>
        rw [he] at hx; rw [aexec_mono h he]
        obtain ⟨v, H'⟩ := p
        simp only at hx ⊢
        cases hb : (bif loadOk T L sn o.lo o.op v then Nat.ble (Vec.size H) (Vec.size H') else false) with
        | true => rw [hb] at hx; exact adraw_mono h hx
        | false => rw [hb] at hx; cases hx
    | false => rw [hw] at hx; exact adraw_mono h hx
theorem astep_mono {E : Env V} {r1 r2 : Task V → Option (Res V)} (h : RLe r1 r2) : RLe (astep E r1) (astep E r2) := by
  intro t r hx
  have go : ∀ {α : Type} (F G : Option (Res V) → Option α) (t : Task V) (y : α), F (r1 t) = some y → F none = none → (∀ z, F (some z) = some y → G (some z) = some y) → G (r2 t) = some y := by
    intro α F G t y h1 h2 h3
    cases hr : r1 t with
    | none => rw [hr, h2] at h1; cases h1
    | some z => rw [hr] at h1; rw [h _ _ hr]; exact h3 _ h1
  cases t with
  | code inR c T H ds =>
    show sCode E r2 inR c T H ds = some r
    replace hx : sCode E r1 inR c T H ds = some r := hx
    cases c <;> try exact hx
    · next a b =>
      refine go (sSeq r1 inR b) (sSeq r2 inR b) _ _ hx rfl fun z hz => ?_
      obtain ⟨e, T', H', ds', v⟩ := z
      cases e <;> first | exact hz | exact h _ _ hz
    · next c a b =>
      simp only [sCode, sCond] at hx ⊢
      split at hx
      · next t e => exact h _ _ hx
      · cases hx
    · next id b => exact go (sBlock id) (sBlock id) _ _ hx rfl fun z hz => hz
    · next b =>
      refine go (sSeq r1 inR (.loop b)) (sSeq r2 inR (.loop b)) _ _ hx rfl fun z hz => ?_
      obtain ⟨e, T', H', ds', v⟩ := z
      cases e <;> first | exact hz | exact h _ _ hz
    · next b => exact h _ _ hx
    · next g ps as_ body =>
      simp only [sCode, sRange] at hx ⊢
      split at hx
      · next f first captured e =>
        exact go (sRangeEnd (Vec.size H + 1) (Vec.size H) T ds) (sRangeEnd (Vec.size H + 1) (Vec.size H) T ds) _ _ hx rfl fun z hz => hz
      · cases hx
    · next ops back =>
      simp only [sCode, sRegion] at hx ⊢
      cases ho : aops E.P (acallV r1) T ops [] H with
      | none => rw [ho] at hx; cases hx
      | some p => rw [ho] at hx; rw [aops_mono (acallV_mono h) ho]; exact hx
    · next ops back =>
      simp only [sCode, sRegion] at hx ⊢
      cases ho : adraw E.P (acallV r1) T ops [H] [] H with
      | none => rw [ho] at hx; cases hx
      | some p => rw [ho] at hx; rw [adraw_mono (acallV_mono h) ho]; exact hx
  | scope inR b cur T H ds =>
    refine go (sScope r1 inR b) (sScope r2 inR b) _ _ hx rfl fun z hz => ?_
    obtain ⟨e, T', H', ds', v⟩ := z
    cases e <;> try exact hz
    next l =>
      simp only [sScope] at hz ⊢
      cases hf : afind b l with
      | none => rw [hf] at hz; exact hz
      | some rest => rw [hf] at hz; exact h _ _ hz
  | call f args H =>
    replace hx : sExt (E.ext f args H) (sCall r1 args H (E.fn f)) = some r := hx
    show sExt (E.ext f args H) (sCall r2 args H (E.fn f)) = some r
    cases he : E.ext f args H with
    | some p => rw [he] at hx; exact hx
    | none =>
      rw [he] at hx
      simp only [sExt, sCall] at hx ⊢
      cases hf : E.fn f with
      | none => rw [hf] at hx; cases hx
      | some fn =>
        rw [hf] at hx
        exact go (sCallEnd fn) (sCallEnd fn) _ _ hx rfl fun z hz => hz
  | round l args H =>
    replace hx : sRound r1 l args H (Vec.get H l) = some r := hx
    show sRound r2 l args H (Vec.get H l) = some r
    simp only [sRound] at hx ⊢
    split at hx
    · next T ps assign body e =>
      cases hs : setParams T ps args with
      | none => rw [hs] at hx; cases hx
      | some T1 =>
        rw [hs] at hx
        refine go (sRoundMid r1 l body) (sRoundMid r2 l body) _ _ hx rfl fun z hz => ?_
        simp only [sRoundMid] at hz ⊢
        split at hz
        · next T2 H2 v2 e2 =>
          split at hz
          · next B eB =>
            exact go (sRoundEnd l) (sRoundEnd l) _ _ hz rfl fun z hz => hz
          · cases hz
        · cases hz
    · cases hx
theorem arun_mono {E : Env V} : ∀ {n m : Nat}, n ≤ m → RLe (arun E n) (arun E m)
  | 0, m, _ => fun t r h => by cases h
  | n + 1, 0, h => by omega
  | n + 1, m + 1, h => astep_mono (arun_mono (E := E) (by omega))
/-- What a task comes to, with fuel enough. -/
def ARuns (E : Env V) (t : Task V) (Q : Res V → Prop) : Prop := ∃ n r, arun E n t = some r ∧ Q r
/-- Operations in a region. -/
def AOps (E : Env V) (T : AT) (ops : List AOper) (L : List Value) (H : AH V) (Q : List Value → AH V → Prop) : Prop := ∃ n L' H', aops E.P (acallV (arun E n)) T ops L H = some (L', H') ∧ Q L' H'
def ADraws (E : Env V) (T : AT) (ops : List AOper) (sn : List (AH V)) (L : List Value) (H : AH V) (Q : List Value → AH V → Prop) : Prop := ∃ n L' H', adraw E.P (acallV (arun E n)) T ops sn L H = some (L', H') ∧ Q L' H'
variable {E : Env V}
theorem ARuns.mono {t : Task V} {Q R : Res V → Prop} (h : ARuns E t Q) (hq : ∀ r, Q r → R r) : ARuns E t R := by
  obtain ⟨n, r, h1, h2⟩ := h
  exact ⟨n, r, h1, hq _ h2⟩
def afterSeq (E : Env V) (inR : Bool) (b : ACode) (Q : Res V → Prop) (r : Res V) : Prop :=
  match r.e with
  | .norm => ARuns E (.code inR b r.T r.H r.ds) Q
  | _ => Q r
theorem runs_sSeq {inR : Bool} {b : ACode} {t t' : Task V} {Q : Res V → Prop} (ht : ∀ rec : Task V → Option (Res V), astep E rec t' = sSeq rec inR b (rec t)) (h : ARuns E t (afterSeq E inR b Q)) : ARuns E t' Q := by
  obtain ⟨n, ⟨e, T, H, ds, v⟩, h1, h2⟩ := h
  cases e
  · obtain ⟨m, r, h3, h4⟩ := (show ARuns E (.code inR b T H ds) Q from h2)
    refine ⟨max n m + 1, r, ?_, h4⟩
    show astep E (arun E (max n m)) t' = some r
    rw [ht, arun_mono (Nat.le_max_left n m) _ _ h1]
    exact arun_mono (Nat.le_max_right n m) _ _ h3
  all_goals
    refine ⟨n + 1, _, ?_, h2⟩
    show astep E (arun E n) t' = _
    rw [ht, h1]
    rfl
theorem runs_seq {inR : Bool} {a b : ACode} {T : AT} {H : AH V} {ds : List Nat} {Q : Res V → Prop} (h : ARuns E (.code inR a T H ds) (afterSeq E inR b Q)) : ARuns E (.code inR (.seq a b) T H ds) Q := runs_sSeq (fun _ => rfl) h
theorem runs_loop {inR : Bool} {b : ACode} {T : AT} {H : AH V} {ds : List Nat} {Q : Res V → Prop} (h : ARuns E (.code inR b T H ds) (afterSeq E inR (.loop b) Q)) : ARuns E (.code inR (.loop b) T H ds) Q := runs_sSeq (fun _ => rfl) h
theorem runs_step {t t' : Task V} {Q : Res V → Prop} (ht : ∀ rec : Task V → Option (Res V), astep E rec t' = rec t) (h : ARuns E t Q) : ARuns E t' Q := by
  obtain ⟨n, r, h1, h2⟩ := h
  exact ⟨n + 1, r, by show astep E (arun E n) t' = some r; rw [ht]; exact h1, h2⟩
theorem runs_done {t : Task V} {r : Res V} {Q : Res V → Prop} (ht : ∀ rec : Task V → Option (Res V), astep E rec t = some r) (h : Q r) : ARuns E t Q := ⟨1, r, ht _, h⟩
theorem runs_cond {inR : Bool} {c : Src} {a b : ACode} {T : AT} {H : AH V} {ds : List Nat} {Q : Res V → Prop} (t : Bool) (hc : sev T [] c = some (.bool t)) (h : ARuns E (.code inR (bif t then a else b) T H ds) Q) : ARuns E (.code inR (.cond c a b) T H ds) Q :=
  runs_step (fun rec => by show sCond rec inR a b T H ds (sev T [] c) = _; rw [hc]; rfl) h
theorem runs_skip {inR : Bool} {T : AT} {H : AH V} {ds : List Nat} {Q : Res V → Prop} (h : Q ⟨.norm, T, H, ds, undef⟩) : ARuns E (.code inR .skip T H ds) Q := runs_done (fun _ => rfl) h
theorem runs_ret {inR : Bool} {T : AT} {H : AH V} {ds : List Nat} {Q : Res V → Prop} (h : Q ⟨.ret, T, H, ds, undef⟩) : ARuns E (.code inR .ret T H ds) Q := runs_done (fun _ => rfl) h
theorem runs_exit {inR : Bool} {id : Nat} {T : AT} {H : AH V} {ds : List Nat} {Q : Res V → Prop} (h : Q ⟨.exit id, T, H, ds, undef⟩) : ARuns E (.code inR (.exit id) T H ds) Q := runs_done (fun _ => rfl) h
theorem runs_map {t t' : Task V} {Q R : Res V → Prop} {F : Option (Res V) → Option (Res V)} (ht : ∀ rec : Task V → Option (Res V), astep E rec t' = F (rec t)) (h : ARuns E t Q) (hq : ∀ r, Q r → ∃ r', F (some r) = some r' ∧ R r') : ARuns E t' R := by
  obtain ⟨n, r, h1, h2⟩ := h
  obtain ⟨r', h3, h4⟩ := hq r h2
  exact ⟨n + 1, r', by show astep E (arun E n) t' = some r'; rw [ht, h1]; exact h3, h4⟩
def afterBlock (id : Nat) (Q : Res V → Prop) (r : Res V) : Prop :=
  match r.e with
  | .exit i => Q { r with e := bif Nat.beq i id then .norm else .exit i }
  | _ => Q r
theorem runs_block {inR : Bool} {id : Nat} {b : ACode} {T : AT} {H : AH V} {ds : List Nat} {Q : Res V → Prop} (h : ARuns E (.code inR b T H ds) (afterBlock id Q)) : ARuns E (.code inR (.block id b) T H ds) Q := by
  refine runs_map (F := sBlock id) (fun _ => rfl) h ?_
  rintro ⟨e, T, H, ds, v⟩ hq
  cases e with
  | exit i =>
    cases hb : Nat.beq i id with
    | true => exact ⟨⟨.norm, T, H, ds, v⟩, by simp only [sBlock, hb, cond_true], by simpa [afterBlock, hb] using hq⟩
    | false => exact ⟨⟨.exit i, T, H, ds, v⟩, by simp only [sBlock, hb, cond_false], by simpa [afterBlock, hb] using hq⟩
  | norm => exact ⟨_, rfl, hq⟩
  | goto l => exact ⟨_, rfl, hq⟩
  | ret => exact ⟨_, rfl, hq⟩
def noGoto (Q : Res V → Prop) (r : Res V) : Prop :=
  match r.e with
  | .goto _ => False
  | _ => Q r
theorem runs_scope {inR : Bool} {b : ACode} {T : AT} {H : AH V} {ds : List Nat} {Q : Res V → Prop} (h : ARuns E (.code inR b T H ds) (noGoto Q)) : ARuns E (.code inR (.scope b) T H ds) Q := by
  obtain ⟨n, ⟨e, T1, H1, ds1, v⟩, h1, h2⟩ := h
  refine ⟨n + 2, ⟨e, T1, H1, ds1, v⟩, ?_, ?_⟩
  · show sScope (arun E n) inR b (arun E n (.code inR b T H ds)) = _
    rw [h1]
    cases e <;> first | rfl | cases h2
  · cases e <;> first | exact h2 | cases h2
theorem runs_region {inR : Bool} {ops : List AOper} {back : List (Nat × Src)} {T : AT} {H : AH V} {ds : List Nat} {Q : Res V → Prop} (h : AOps E T ops [] H fun L H' => ∃ T', aback T L back T = some T' ∧ Q ⟨.norm, T', H', ds, undef⟩) : ARuns E (.code inR (.region ops back) T H ds) Q := by
  obtain ⟨n, L, H', h1, T', h2, h3⟩ := h
  refine ⟨n + 1, _, ?_, h3⟩
  show sRegion T back ds (aops E.P (acallV (arun E n)) T ops [] H) = _
  rw [h1]
  simp only [sRegion, h2]
theorem runs_draw {inR : Bool} {ops : List AOper} {back : List (Nat × Src)} {T : AT} {H : AH V} {ds : List Nat} {Q : Res V → Prop} (h : ADraws E T ops [H] [] H fun L H' => ∃ T', aback T L back T = some T' ∧ Q ⟨.norm, T', H', ds, undef⟩) : ARuns E (.code inR (.draw ops back) T H ds) Q := by
  obtain ⟨n, L, H', h1, T', h2, h3⟩ := h
  refine ⟨n + 1, _, ?_, h3⟩
  show sRegion T back ds (adraw E.P (acallV (arun E n)) T ops [H] [] H) = _
  rw [h1]
  simp only [sRegion, h2]
theorem ops_nil {T : AT} {L : List Value} {H : AH V} {Q : List Value → AH V → Prop} (h : Q L H) : AOps E T [] L H Q := ⟨0, L, H, rfl, h⟩
/-- What one operation comes to: a call, or another one. -/
def ADoes (E : Env V) (T L : List Value) (op : AOp Src) (H : AH V) (Q : Value → AH V → Prop) : Prop := ∃ n v H', aexec E.P (acallV (arun E n)) op (sev T L) H = some (v, H') ∧ Q v H'
theorem ops_cons {T : AT} {o : AOper} {ops : List AOper} {L : List Value} {H : AH V} {Q : List Value → AH V → Prop} (hw : awanted T L o.g = true) (h : ADoes E T L o.op H fun v H' => AOps E T ops (v :: L) H' Q) : AOps E T (o :: ops) L H Q := by
  obtain ⟨n, v, H1, h1, m, L', H', h2, h3⟩ := h
  refine ⟨max n m, L', H', ?_, h3⟩
  simp only [aops, hw]
  rw [aexec_mono (acallV_mono (arun_mono (Nat.le_max_left n m))) h1]
  exact aops_mono (acallV_mono (arun_mono (Nat.le_max_right n m))) h2
theorem ops_not {T : AT} {o : AOper} {ops : List AOper} {L : List Value} {H : AH V} {Q : List Value → AH V → Prop} (hw : awanted T L o.g = false) (h : AOps E T ops (undef :: L) H Q) : AOps E T (o :: ops) L H Q := by
  obtain ⟨m, L', H', h2, h3⟩ := h
  refine ⟨m, L', H', ?_, h3⟩
  simp only [aops, hw]
  exact h2
theorem does_op {T L : List Value} {op : AOp Src} {H : AH V} {Q : Value → AH V → Prop} (v : Value) (H' : AH V) (h : aexec E.P (fun _ _ _ => none) op (sev T L) H = some (v, H')) (hq : Q v H') : ADoes E T L op H Q :=
  ⟨0, v, H', aexec_mono (fun _ _ _ _ h => by cases h) h, hq⟩
theorem does_call {T L : List Value} {f : Src} {args : List Src} {H : AH V} {Q : Value → AH V → Prop} {g : FuncId} {first captured : Array Value} {vs : List Value} (hf : sev T L f = some (.func (.func g) first captured)) (ha : evs (sev T L) args = some vs)
    (h : ARuns E (.call g (first.toList ++ vs ++ captured.toList) H) fun r => Q r.v r.H) : ADoes E T L (.call f args) H Q := by
  obtain ⟨n, ⟨e, T', H', ds, v⟩, h1, h2⟩ := h
  refine ⟨n, v, H', ?_, h2⟩
  simp only [aexec, xCall, hf, ha, acallV, h1]
theorem draws_nil {T : AT} {sn : List (AH V)} {L : List Value} {H : AH V} {Q : List Value → AH V → Prop} (h : Q L H) : ADraws E T [] sn L H Q := ⟨0, L, H, rfl, h⟩
theorem draws_cons {T : AT} {o : AOper} {ops : List AOper} {sn : List (AH V)} {L : List Value} {H : AH V} {Q : List Value → AH V → Prop} (hw : awanted T L o.g = true) (h : ADoes E T L o.op H fun v H' => loadOk T L sn o.lo o.op v = true ∧ Vec.size H ≤ Vec.size H' ∧ ADraws E T ops (bif isEff o.op then H' :: sn else sn) (v :: L) H' Q) : ADraws E T (o :: ops) sn L H Q := by
  obtain ⟨n, v, H1, h1, hl, hs, m, L', H', h2, h3⟩ := h
  refine ⟨max n m, L', H', ?_, h3⟩
  simp only [adraw, hw]
  rw [aexec_mono (acallV_mono (arun_mono (Nat.le_max_left n m))) h1]
  simp only [hl, cond_true, ble_t hs]
  exact adraw_mono (acallV_mono (arun_mono (Nat.le_max_right n m))) h2
theorem draws_not {T : AT} {o : AOper} {ops : List AOper} {sn : List (AH V)} {L : List Value} {H : AH V} {Q : List Value → AH V → Prop} (hw : awanted T L o.g = false) (h : ADraws E T ops (bif isEff o.op then H :: sn else sn) (undef :: L) H Q) : ADraws E T (o :: ops) sn L H Q := by
  obtain ⟨m, L', H', h2, h3⟩ := h
  refine ⟨m, L', H', ?_, h3⟩
  simp only [adraw, hw]
  exact h2
theorem runs_call {f : FuncId} {fn : AFunc} {args : List Value} {H : AH V} {Q : Res V → Prop} (hx : E.ext f args H = none) (hf : E.fn f = some fn)
    (h : ARuns E (.code false fn.body (fn.keep.map fun t => (args[t]?).getD undef) H []) fun r => (r.e = .norm ∨ r.e = .ret) ∧ ∃ H' vs, shut r.H r.ds = some H' ∧ ares r.T H' fn.res = some vs ∧ Q ⟨.norm, [], H', [], pack vs⟩) : ARuns E (.call f args H) Q := by
  refine runs_map (F := sCallEnd fn) (fun rec => ?_) h ?_
  · show sExt (E.ext f args H) (sCall rec args H (E.fn f)) = _
    rw [hx, hf]; rfl
  · rintro ⟨e, T, H', ds, v⟩ ⟨he, H2, vs, h1, h2, h3⟩
    refine ⟨_, ?_, h3⟩
    rcases he with rfl | rfl <;> simp only [sCallEnd, h1, sRet, h2]
theorem acall_of_runs {f : FuncId} {args : List Value} {H : AH V} {Q : Value → AH V → Prop} (h : ARuns E (.call f args H) fun r => Q r.v r.H) : ∃ N v H', acall E N f args H = some (v, H') ∧ Q v H' := by
  obtain ⟨n, ⟨e, T, H', ds, v⟩, h1, h2⟩ := h
  exact ⟨n, v, H', by simp only [acall, h1], h2⟩
end
end Go.Proofs.Ytdbehmepikhghaa.AM
