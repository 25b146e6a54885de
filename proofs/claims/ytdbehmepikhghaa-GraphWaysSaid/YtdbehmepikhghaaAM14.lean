/- The induction; what a call of the evaluator says of the model. -/
import Derived.Test.YtdbehmepikhghaaAM13
set_option linter.unusedVariables false
set_option linter.unusedSimpArgs false
namespace Go.Proofs.Ytdbehmepikhghaa.AM
section
variable {V : Type → Type} [Vec V] {E : Env V} {N : Nat}

theorem compile_region (P : Program) (share : Bool) (keep : List Nat) (id : Nat) (ops : Array Oper) (d : Bool) : compile P share keep (.region id ops d) = compileRegion P share keep ops d := rfl
theorem region_kind {P : Program} {share : Bool} {keep : List Nat} {ops : Array Oper} {d : Bool} :
    compileRegion P share keep ops d = .bad ∨ (d = false ∧ ∃ al back, compileRegion P share keep ops d = .region al back) ∨ (d = true ∧ ∃ al back, compileRegion P share keep ops d = .draw al back) := by
  unfold compileRegion
  cases d with
  | true =>
    simp only [if_true]
    split
    · split
      · exact .inr (.inr ⟨trivial, _, _, rfl⟩)
      · exact .inl rfl
    · exact .inl rfl
  | false =>
    simp only [Bool.false_eq_true, if_false]
    split
    · exact .inr (.inl ⟨trivial, _, _, rfl⟩)
    · exact .inl rfl

theorem block_post {P : Program} {X : Nat → Option Obj} {w0 w : World} {ρ : Rho} {H : AH V} {keep : List Nat} {nt id : Nat} {res1 res : Res V} (hr : sBlock id (some res1) = some res) :
    ∀ ex a1 w1, Post P X w0 ρ H w keep nt res1.e res1.T res1.H res1.ds ex a1 w1 → Exit.inBlock id (Post P X w0 ρ H w keep nt res.e res.T res.H res.ds) ex a1 w1 := by
  intro ex a1 w1 hp
  obtain ⟨e, T1, H1, ds1, v1⟩ := res1
  obtain ⟨hex, ρ1, hq⟩ := hp
  subst hex
  cases e with
  | norm => simp only [sBlock, Option.some.injEq] at hr; subst hr; exact ⟨rfl, ρ1, hq⟩
  | goto l => simp only [sBlock, Option.some.injEq] at hr; subst hr; exact ⟨rfl, ρ1, hq⟩
  | ret => simp only [sBlock, Option.some.injEq] at hr; subst hr; exact ⟨rfl, ρ1, hq⟩
  | exit i =>
    simp only [sBlock] at hr
    show (if i = id then _ else _)
    by_cases hi : i = id
    · subst hi
      rw [if_pos rfl]
      simp only [Nat.beq_refl, cond_true, Option.some.injEq] at hr
      subst hr
      exact ⟨rfl, ρ1, hq⟩
    · rw [if_neg hi]
      have : Nat.beq i id = false := by
        rw [← Bool.not_eq_true, Nat.beq_eq]; exact hi
      simp only [this, cond_false, Option.some.injEq] at hr
      subst hr
      exact ⟨rfl, ρ1, hq⟩

theorem range_sound (hE : EnvOk E) (ih : AllOk E N) {inR share : Bool} {keep : List Nat} {g : Operand} {gs : Src} {ps : Array Nat} {as_ bd : Code} {T : AT} {H : AH V} {ds : List Nat} {res : Res V}
    (hg : keptSrc keep g = some gs) (h : sRange (arun E N) inR (ps.toList.map fun t => keep.idxOf? t) (compile E.P share keep as_) (compile E.P share keep bd) T H ds (sev T [] gs) = some res)
    {X : Nat → Option Obj} {w0 : World} {ρ : Rho} {w : World} {a : Act} {nt : Nat} {r : Option Nat} {n : Nat} (hok : cOk nt (.rangeFunc g ps as_ bd) = true) (hx : CtxOk E.P keep inR T H ds X w0 ρ w a nt r) :
    (Code.rangeFunc g ps as_ bd).wpIn (FW r) n E.P (Post E.P X w0 ρ H w keep nt res.e res.T res.H res.ds) a w := by
  unfold sRange at h
  split at h
  case h_2 => cases h
  rename_i f first captured hgv
  have hr : r = none := hx.out rfl
  subst hr
  have hev := kept_eval hx hg hgv
  obtain ⟨a', c', hge, hra, hrc⟩ := hev.fn_inv
  simp only [cOk, Bool.and_eq_true] at hok
  obtain ⟨ok1, ok2, ok3⟩ := hok
  cases h1 : arun E N (.call f (first.toList ++ [.func (.yield (Vec.size H + 1)) #[] #[]] ++ captured.toList) (Vec.push (Vec.push H .defr) (.loop T (ps.toList.map fun t => keep.idxOf? t) (compile E.P share keep as_) (compile E.P share keep bd) .ready none))) with
  | none => rw [h1] at h; cases h
  | some res1 =>
    rw [h1] at h
    obtain ⟨⟨fn0, c0, q1, q2, q3⟩, hcall⟩ := ih.call _ _ _ _ h1
    refine wpIn_rangeFunc fun fn _ => ?_
    -- the two new blocks
    let w1 : World := { w with heap := w.heap.push (.deferred (some [])) }
    let r0 : Loop := { state := .ready, pending := none, fn, tmps := a.tmps, params := ps, assign := as_, body := bd, defers := w.heap.size }
    let w2 : World := { w1 with heap := w1.heap.push (.loop r0) }
    have hn0 := hx.now
    have hid : ρ (Vec.size H) = none := hn0.fresh
    have hn1 : Now E.P X w0 (ρ.upd (Vec.size H) (w.heap.size, 0) none) (Vec.push H .defr) w1 := by
      refine ⟨?_, fun b p hb => ?_⟩
      · rw [view_push]
        have hv : St E.P X w0 ρ (setB (view H) (Vec.size H) .defr) w := hn0.st.view fun b p hb => by
          have := hn0.dom b p hb
          rw [setB_ne _ _ (by omega)]
        refine hv.push _ hid none ?_ (fun cs lo hb => by rw [setB_same] at hb; cases hb)
        rw [setB_same]
        exact ⟨hn0.st.fresh, by simp⟩
      · rw [Vec.size_push]
        by_cases e : b = Vec.size H
        · omega
        · rw [Rho.upd_ne ρ _ _ e] at hb
          have := hn0.dom b p hb
          omega
    have hw1 : w1.heap.size = w.heap.size + 1 := by simp [w1]
    have hid1 : (ρ.upd (Vec.size H) (w.heap.size, 0) none) (Vec.size H + 1) = none := by
      have := hn1.fresh
      rwa [Vec.size_push] at this
    have hle1 : ρ.le (ρ.upd (Vec.size H) (w.heap.size, 0) none) := Rho.le_upd _ _ hid
    have hle2 : (ρ.upd (Vec.size H) (w.heap.size, 0) none).le ((ρ.upd (Vec.size H) (w.heap.size, 0) none).upd (Vec.size H + 1) (w1.heap.size, 0) none) := Rho.le_upd _ _ hid1
    have hn2 : Now E.P X w0 ((ρ.upd (Vec.size H) (w.heap.size, 0) none).upd (Vec.size H + 1) (w1.heap.size, 0) none) (Vec.push (Vec.push H .defr) (.loop T (ps.toList.map fun t => keep.idxOf? t) (compile E.P share keep as_) (compile E.P share keep bd) .ready none)) w2 := by
      refine ⟨?_, fun b p hb => ?_⟩
      · rw [view_push, Vec.size_push]
        have hv : St E.P X w0 (ρ.upd (Vec.size H) (w.heap.size, 0) none) (setB (view (Vec.push H .defr)) (Vec.size H + 1) (.loop T (ps.toList.map fun t => keep.idxOf? t) (compile E.P share keep as_) (compile E.P share keep bd) .ready none)) w1 := hn1.st.view fun b p hb => by
          have := hn1.dom b p hb
          rw [Vec.size_push] at this
          rw [setB_ne _ _ (by omega)]
        refine hv.push _ hid1 none ?_ (fun cs lo hb => by rw [setB_same] at hb; cases hb)
        rw [setB_same]
        refine ⟨hn1.st.fresh, r0, share, keep, nt, by simp [r0], (hx.tmps.mono hle1).mono hle2, ⟨hx.nt, ok2, ok3, fun t ht => ?_⟩, rfl, rfl, rfl, rfl, rfl⟩
        have := List.all_eq_true.1 ok1 t ht
        simpa using this
      · rw [Vec.size_push, Vec.size_push]
        by_cases e : b = Vec.size H + 1
        · omega
        · rw [Rho.upd_ne _ _ _ e] at hb
          have := hn1.dom b p hb
          rw [Vec.size_push] at this
          omega
    have hyl : VRel ((ρ.upd (Vec.size H) (w.heap.size, 0) none).upd (Vec.size H + 1) (w1.heap.size, 0) none) (.func (.yield (Vec.size H + 1)) #[] #[]) (.func (.yield w1.heap.size) #[] #[]) := .yld (co := 0) (Rho.upd_same _ _ _ _)
    have hargs : VRels ((ρ.upd (Vec.size H) (w.heap.size, 0) none).upd (Vec.size H + 1) (w1.heap.size, 0) none) (first.toList ++ [.func (.yield (Vec.size H + 1)) #[] #[]] ++ captured.toList) (a'.toList ++ [.func (.yield w1.heap.size) #[] #[]] ++ c'.toList) :=
      (((hra.mono hle1).mono hle2).append (.cons hyl .nil)).append ((hrc.mono hle1).mono hle2)
    have hC := hcall X w0 _ w2 _ hargs hn2 none (n - 1)
    have ea : (a'.toList ++ [Value.func (.yield w1.heap.size) #[] #[]] ++ c'.toList).toArray = a' ++ #[Value.func (.yield w1.heap.size) #[] #[]] ++ c' := by apply Array.ext'; simp
    rw [ea] at hC
    refine ⟨w1.heap.size, [{ target := .collected w.heap.size, args := #[] }], w2, { target := .fn (.func f) c', args := a' ++ #[Value.func (.yield w1.heap.size) #[] #[]] }, w2, f, a' ++ #[Value.func (.yield w1.heap.size) #[] #[]] ++ c', w2, ?_, ?_, fun _ _ => trivial, ?_, fun hd => (by cases hd), ?_⟩
    · show (Instr.enterLoop fn a.tmps ps as_ bd none).run E.P w = _
      simp only [Instr.enterLoop, Sem.run_bind, run_newObj, Result.andThen_ok, Sem.run_pure]
      rfl
    · have hmap : Array.map a.eval #[Operand.const (Value.func (.yield w1.heap.size) #[] #[])] = #[Value.func (.yield w1.heap.size) #[] #[]] := by simp [Act.eval]
      simp only [resolve, rangeCall, hge, Deferred.ofValue, Sem.run_pure, hmap]
    · have h5 : fn0.name ≠ "runtime.NumGoroutine" := by simpa using q3
      simp [invoke, callFunc, q1, h5, q2]
    · refine CallsIn.mono hC fun e w3 he => ?_
      obtain ⟨v', rfl, ρ3, hd3⟩ := he
      -- the end
      unfold sRangeEnd at h
      obtain ⟨e1, T1, H1, ds1, v1⟩ := res1
      simp only at h hd3
      have hρl := (hd3.le _ _ (Rho.upd_same _ _ _ _)).1
      have hρd := (hd3.le _ _ (hle2 _ _ (Rho.upd_same _ _ _ _)).1).1
      have hgone : Gone E.P X w0 ρ H w ρ3 H1 w3 := by
        refine ⟨(hle1.trans hle2).trans hd3.le, hd3.now, ?_, ?_, fun b p hb => ?_⟩
        · have := hd3.size; rw [Vec.size_push, Vec.size_push] at this; omega
        · have := hd3.heap; simp only [w2, w1, Array.size_push] at this; omega
        · rcases hd3.names b p hb with hh | hh
          · rcases names_upd (X := X) hn1.st.fresh b p hh with hh | hh
            · exact names_upd (X := X) hn0.st.fresh b p hh
            · exact .inr hh
          · exact .inr hh
      have hT3 : TRel ρ3 keep T a.tmps := hx.tmps.mono hgone.le
      have hD3 : DRel ρ3 (Vec.size H :: ds) ([{ target := .collected w.heap.size, args := #[] }] ++ a.defers) := .cons hρd rfl (hx.defers.mono hgone.le)
      have hlt := hd3.now.st.dom _ _ hρl
      have hdead : ∀ {B0 : Blk} (hb : Vec.get H1 (Vec.size H + 1) = some B0) (hm : isMark B0) (o : Obj), Gone E.P X w0 ρ H w ρ3 (Vec.set H1 (Vec.size H + 1) .dead) (setBlk w3 w1.heap.size o) := by
        intro B0 hb hm o
        refine ⟨hgone.le, ⟨?_, fun b p hbp => by rw [Vec.size_set]; exact hgone.now.dom b p hbp⟩, by rw [Vec.size_set]; exact hgone.size, by simpa [setBlk] using hgone.heap, hgone.names⟩
        rw [view_set hb]
        exact hd3.now.st.turn hρl (by rw [view_some hb]; exact hm) o trivial (.inr rfl)
      split at h
      · rename_i T5 ps5 as5 bd5 hb
        injection h with h
        subst h
        have hblk := hd3.now.st.blk _ _ hρl
        rw [view_some hb] at hblk
        obtain ⟨hX5, r5, _, _, _, k1, _, _, _, _, _, k7, k8⟩ := hblk
        refine ⟨_, _, run_endLoop k1 (by rw [k7]; simp), ?_⟩
        rw [k8]
        exact ⟨rfl, ρ3, hdead hb trivial _, hT3, hx.nt, hD3⟩
      · rename_i T5 ps5 as5 bd5 e5 hb
        injection h with h
        subst h
        have hblk := hd3.now.st.blk _ _ hρl
        rw [view_some hb] at hblk
        obtain ⟨hX5, r5, _, _, _, k1, _, _, _, _, _, k7, k8⟩ := hblk
        refine ⟨_, _, run_endLoop k1 (by rw [k7]; simp), ?_⟩
        rw [k8]
        exact wpIn_code e5 ⟨rfl, ρ3, hdead hb trivial _, hT3, hx.nt, hD3⟩
      · cases h

theorem code_step (hE : EnvOk E) (ih : AllOk E N) (inR : Bool) (c : ACode) (T : AT) (H : AH V) (ds : List Nat) (res : Res V) (h : arun E (N + 1) (.code inR c T H ds) = some res) (hloop : ∀ b, c = .loop b → LoopOk E.P inR b T H ds res) : CodeOk E.P inR c T H ds res := by
  intro share keep cc hc X w0 ρ w a nt r n hok hx
  simp only [arun, astep] at h
  cases cc with
  | skip =>
    subst hc
    simp only [compile, sCode, Option.some.injEq] at h
    subst h
    exact wpIn_skip (post_here .norm hx)
  | label l =>
    subst hc
    simp only [compile, sCode, Option.some.injEq] at h
    subst h
    exact wpIn_label (post_here .norm hx)
  | ret =>
    subst hc
    simp only [compile, sCode, Option.some.injEq] at h
    subst h
    exact wpIn_ret (post_here .ret hx)
  | exit id =>
    subst hc
    simp only [compile, sCode, Option.some.injEq] at h
    subst h
    exact wpIn_exit (post_here (.exit id) hx)
  | goto l =>
    subst hc
    simp only [compile, sCode, Option.some.injEq] at h
    subst h
    exact wpIn_goto (post_here (.goto l) hx)
  | refuse u =>
    subst hc
    simp only [compile, sCode] at h
    cases h
  | seq x y =>
    subst hc
    simp only [compile, sCode] at h
    simp only [cOk, Bool.and_eq_true] at hok
    obtain ⟨res1, h1⟩ := sSeq_some h
    rw [h1] at h
    have hb := ih.code _ _ _ _ _ _ h1 share keep x rfl X w0 ρ w a nt r n hok.1 hx
    refine wpIn_seq (wpIn_mono hb (then_post h hx.out fun ρ1 a1 w1 h2 hg hx1 => ?_))
    exact wpIn_mono (ih.code _ _ _ _ _ _ h2 share keep y rfl X w0 ρ1 w1 a1 nt r n hok.2 hx1) fun _ _ _ hp => Post.trans hg hp
  | cond cnd x y =>
    simp only [compile] at hc
    simp only [cOk, Bool.and_eq_true] at hok
    cases hk : keptSrc keep cnd with
    | none =>
      rw [hk] at hc
      subst hc
      cases h
    | some s =>
      rw [hk] at hc
      subst hc
      simp only [sCode] at h
      unfold sCond at h
      split at h
      · rename_i t ht
        have he := (kept_eval hx hk ht).bool
        refine wpIn_cond he ?_
        cases t with
        | true => exact ih.code _ _ _ _ _ _ h share keep x rfl X w0 ρ w a nt r n hok.1 hx
        | false => exact ih.code _ _ _ _ _ _ h share keep y rfl X w0 ρ w a nt r n hok.2 hx
      · cases h
  | block id b =>
    subst hc
    simp only [compile, sCode] at h
    simp only [cOk] at hok
    cases h1 : arun E N (.code inR (compile E.P share keep b) T H ds) with
    | none => rw [h1] at h; cases h
    | some res1 =>
      rw [h1] at h
      have hb := ih.code _ _ _ _ _ _ h1 share keep b rfl X w0 ρ w a nt r n hok hx
      exact wpIn_block (wpIn_mono hb (block_post h))
  | loop b =>
    simp only [cOk] at hok
    exact wpIn_loop_of (hloop _ hc share keep b rfl X w0 ρ w a nt r n hok hx)
  | scope b =>
    subst hc
    simp only [compile, sCode] at h
    simp only [cOk] at hok
    exact wpIn_scope_of (ih.scope _ _ _ _ _ _ _ h share keep b b rfl rfl X w0 ρ w a nt r n hok hok hx)
  | region id ops d =>
    rw [compile_region] at hc
    simp only [cOk] at hok
    rcases region_kind (P := E.P) (share := share) (keep := keep) (ops := ops) (d := d) with hb | ⟨rfl, al, back, hb⟩ | ⟨rfl, al, back, hb⟩
    · rw [hc, hb] at h; cases h
    · rw [hc, hb] at h
      exact region_sound (callOk_of ih) hb h hx.tmps hx.now hx.nt hok hx.defers
    · rw [hc, hb] at h
      exact hE.draw share keep ops al back _ id nt r n a ds res X w0 ρ H w T (callOk_of ih) hb h hx.tmps hx.now hx.nt hok hx.defers
  | rangeFunc g ps as_ bd =>
    simp only [compile] at hc
    cases hk : keptSrc keep g with
    | none =>
      rw [hk] at hc
      subst hc
      cases h
    | some s =>
      rw [hk] at hc
      subst hc
      simp only [sCode] at h
      exact range_sound hE ih hk h hok hx

theorem all_ok (hE : EnvOk E) : ∀ N, AllOk E N
  | 0 => by
    constructor
    · intro _ _ _ _ _ _ h; cases h
    · intro _ _ _ _ _ _ h; cases h
    · intro _ _ _ _ _ _ _ h; cases h
    · intro _ _ _ _ h; cases h
    · intro _ _ _ _ h; cases h
  | N + 1 =>
    have ih := all_ok hE N
    ⟨fun inR c T H ds res h => code_step hE ih inR c T H ds res h fun b hb => by subst hb; exact loop_step ih inR b T H ds res h,
      loop_step ih, scope_step ih, call_step hE ih, round_step ih⟩

/-- WHAT THE EVALUATOR SAYS OF A CALL IS SO. -/
theorem acall_sound (hE : EnvOk E) {N : Nat} {f : FuncId} {args : List Value} {H H' : AH V} {v : Value} (h : acall E N f args H = some (v, H')) : CallsOk E.P f args H v H' := by
  unfold acall at h
  split at h
  · rename_i e T H2 ds v2 hr
    simp only [Option.some.injEq, Prod.mk.injEq] at h
    obtain ⟨rfl, rfl⟩ := h
    exact (all_ok hE N).call _ _ _ _ hr
  · cases h
end
end Go.Proofs.Ytdbehmepikhghaa.AM
