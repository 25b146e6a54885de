/- The step of the induction. -/
import Derived.Test.YtdbehmepikhghaaAM12
set_option linter.unusedVariables false
set_option linter.unusedSimpArgs false
namespace Go.Proofs.Ytdbehmepikhghaa.AM
section
variable {V : Type → Type} [Vec V] {E : Env V} {N : Nat}

theorem post_here {P : Program} {X : Nat → Option Obj} {w0 w : World} {ρ : Rho} {H : AH V} {keep : List Nat} {nt : Nat} {a : Act} {inR : Bool} {T : AT} {ds : List Nat} {r : Option Nat} (e : AE) (h : CtxOk P keep inR T H ds X w0 ρ w a nt r) :
    Post P X w0 ρ H w keep nt e T H ds e.exit' a w := ⟨rfl, ρ, Gone.refl h.now, h.tmps, h.nt, h.defers⟩
theorem kept_eval {P : Program} {X : Nat → Option Obj} {w0 w : World} {ρ : Rho} {H : AH V} {keep : List Nat} {nt : Nat} {a : Act} {inR : Bool} {T : AT} {ds : List Nat} {r : Option Nat} (h : CtxOk P keep inR T H ds X w0 ρ w a nt r)
    {x : Operand} {s : Src} (hs : keptSrc keep x = some s) {v : Value} (hv : sev T [] s = some v) : VRel ρ v (a.eval x) := by
  have := h.tmps.mrel.erel (a := a) x v
  refine this ?_
  simp only [List.length_nil]
  unfold keptSrc at hs
  rw [hs]
  exact hv

theorem loop_step (ih : AllOk E N) (inR : Bool) (c : ACode) (T : AT) (H : AH V) (ds : List Nat) (res : Res V) (h : arun E (N + 1) (.code inR (.loop c) T H ds) = some res) : LoopOk E.P inR c T H ds res := by
  intro share keep cc hc X w0 ρ w a nt r n hok hx
  simp only [arun, astep, sCode] at h
  obtain ⟨res1, h1⟩ := sSeq_some h
  rw [h1] at h
  have hb := ih.code _ _ _ _ _ _ h1 share keep cc hc X w0 ρ w a nt r n hok hx
  refine loopIn_of (wpIn_mono hb (then_post h hx.out fun ρ1 a1 w1 h2 hg hx1 => ?_))
  intro b k cs q1 q2 q3
  obtain ⟨e, a', w', hq, harr⟩ := ih.loop _ _ _ _ _ _ h2 share keep cc hc X w0 ρ1 w1 a1 nt r n hok hx1 b k cs q1 q2 q3
  exact ⟨e, a', w', Post.trans hg hq, harr⟩

theorem scope_step (ih : AllOk E N) (inR : Bool) (b cur : ACode) (T : AT) (H : AH V) (ds : List Nat) (res : Res V) (h : arun E (N + 1) (.scope inR b cur T H ds) = some res) : ScopeOk E.P inR b cur T H ds res := by
  intro share keep cb cc hcb hcc X w0 ρ w a nt r n hok hok2 hx
  simp only [arun, astep] at h
  cases h1 : arun E N (.code inR cur T H ds) with
  | none => rw [h1] at h; cases h
  | some res1 =>
    rw [h1] at h
    have hb := ih.code _ _ _ _ _ _ h1 share keep cc hcc X w0 ρ w a nt r n hok2 hx
    refine scopeIn_of (wpIn_mono hb fun ex a1 w1 hp => ?_)
    obtain ⟨e, T1, H1, ds1, v1⟩ := res1
    obtain ⟨hex, ρ1, hg, ht, hnt, hd⟩ := hp
    subst hex
    cases e with
    | norm => simp only [sScope, Option.some.injEq] at h; subst h; exact ⟨rfl, ρ1, hg, ht, hnt, hd⟩
    | exit id => simp only [sScope, Option.some.injEq] at h; subst h; exact ⟨rfl, ρ1, hg, ht, hnt, hd⟩
    | ret => simp only [sScope, Option.some.injEq] at h; subst h; exact ⟨rfl, ρ1, hg, ht, hnt, hd⟩
    | goto l =>
      simp only [sScope] at h
      rw [hcb, afind_compile] at h
      show (match findLabel cb l with | some rest => _ | none => _)
      cases hf : findLabel cb l with
      | none =>
        rw [hf] at h
        simp only [Option.map_none, Option.some.injEq] at h
        subst h
        exact ⟨rfl, ρ1, hg, ht, hnt, hd⟩
      | some rest =>
        rw [hf] at h
        simp only [Option.map_some] at h
        rw [← hcb] at h
        intro b' k cs q1 q2 q3
        obtain ⟨e, a', w', hq, harr⟩ := ih.scope _ _ _ _ _ _ _ h share keep cb rest hcb rfl X w0 ρ1 w1 a1 nt r n hok (cOk_find hf hok) ⟨hx.out, ht, hg.now, hnt, hd⟩ b' k cs q1 q2 q3
        exact ⟨e, a', w', Post.trans hg hq, harr⟩

/-! ### Returns -/
theorem leaves_sound {P : Program} {X : Nat → Option Obj} {w0 : World} {keep : List Nat} {T : AT} {n : Nat} {fn : Func} {ars : List ARes} {vs : List Value} {H' : AH V} {tmps : Array Value} {R : Value → World → Prop} {r : Option Nat}
    (hc : mapOpt (compileRes P keep) fn.results.toList = some ars) (hv : ares T H' ars = some vs) : ∀ {ds : List Nat} {Ds : List Deferred} {ρ : Rho} {H : AH V} {w : World}, DRel ρ ds Ds → Now P X w0 ρ H w → shut H ds = some H' → TRel ρ keep T tmps →
    (∀ v' w', Gone P X w0 ρ H w ρ H' w' → VRel ρ (pack vs) v' → R v' w') → LeavesInM (FW r) n P fn tmps (OnlyReturns R) Ds .returning w := by
  intro ds
  induction ds with
  | nil =>
    intro Ds ρ H w hD hn hs hT hR
    cases hD
    simp only [shut, Option.some.injEq] at hs
    subst hs
    obtain ⟨v', h1, h2⟩ := results_sound hn hT hc hv
    exact ⟨v', h2, v', rfl, hR v' w (Gone.refl hn) h1⟩
  | cons d ds ih =>
    intro Ds ρ H w hD hn hs hT hR
    cases hD with
    | @cons _ cb co D _ Ds' hp ht htl =>
      simp only [shut] at hs
      split at hs
      · rename_i hb
        have hvb := view_some hb
        have hblk := hn.st.blk d _ hp
        rw [hvb] at hblk
        have hlt := hn.st.dom d _ hp
        refine ⟨by simp, .inl ⟨cb, _, ht, run_take hblk.2, ?_⟩⟩
        have hn1 : Now P X w0 ρ (Vec.set H d .dead) (setBlk w cb (.deferred none)) := by
          refine ⟨?_, fun b p hbp => by rw [Vec.size_set]; exact hn.dom b p hbp⟩
          rw [view_set hb]
          exact hn.st.turn hp (by rw [hvb]; trivial) _ trivial (.inr rfl)
        refine ih htl hn1 hs hT fun v' w' g hv' => hR v' w' ⟨g.le, g.now, by have := g.size; rwa [Vec.size_set] at this, by have := g.heap; simpa [setBlk] using this, g.names⟩ hv'
      · cases hs

theorem mem_idx {keep : List Nat} {t i : Nat} (h : keep.idxOf? t = some i) : t ∈ keep := List.mem_iff_getElem?.2 ⟨i, idx_get h⟩
theorem keep_lt {fn : Func} {c : Code} {t : Nat} (h : t ∈ keepOf fn c) : t < fn.ntmps := by
  unfold keepOf at h
  have := List.mem_filter.1 h
  exact List.mem_range.1 this.1
theorem enter_rel {ρ : Rho} {fn : Func} {c : Code} {args args' : List Value} (hv : VRels ρ args args') :
    TRel ρ (keepOf fn c) ((keepOf fn c).map fun t => (args[t]?).getD undef) (args'.toArray ++ Array.replicate (fn.ntmps - args'.toArray.size) undef) := by
  intro t i hi
  have hlt := keep_lt (mem_idx hi)
  have hk := idx_get hi
  have hl := hv.length
  by_cases ht : t < args.length
  · have hg : args[t]? = some args[t] := List.getElem?_eq_getElem ht
    obtain ⟨v', h1, h2⟩ := hv.get hg
    refine ⟨args[t], v', by simp [hk, hg], ?_, h2⟩
    rw [Array.getElem?_append_left (by simp; omega)]
    simpa using h1
  · refine ⟨undef, undef, by simp [hk, List.getElem?_eq_none (Nat.le_of_not_lt ht)], ?_, .flat rfl⟩
    rw [Array.getElem?_append_right (by simp; omega), Array.getElem?_replicate, if_pos (by simp; omega)]
theorem enter_size {fn : Func} {args' : List Value} : fn.ntmps ≤ (args'.toArray ++ Array.replicate (fn.ntmps - args'.toArray.size) undef).size := by
  simp; omega

theorem call_step (hE : EnvOk E) (ih : AllOk E N) (f : FuncId) (args : List Value) (H : AH V) (res : Res V) (h : arun E (N + 1) (.call f args H) = some res) : CallsOk E.P f args H res.v res.H := by
  simp only [arun, astep] at h
  cases hx : E.ext f args H with
  | some p =>
    obtain ⟨v, H'⟩ := p
    rw [hx] at h
    simp only [sExt, Option.some.injEq] at h
    subst h
    exact hE.ext _ _ _ _ _ hx
  | none =>
    rw [hx] at h
    simp only [sExt] at h
    unfold sCall at h
    split at h
    · rename_i afn hf
      obtain ⟨share, hcf⟩ := hE.fn f afn hf
      unfold compileFn at hcf
      split at hcf
      · rename_i fn hfn
        split at hcf
        · rename_i c hbody
          split at hcf
          · rename_i rs hrs
            split at hcf
            · cases hcf
            · rename_i hname
              injection hcf with hcf
              subst hcf
              simp only [Bool.or_eq_true, not_or, Bool.not_eq_true, Bool.not_eq_false'] at hname
              refine ⟨⟨fn, c, hfn, hbody, hname.1⟩, fun X w0 ρ w args' hv hn r n => ?_⟩
              simp only at h
              have key : CallsIn (FW none) n E.P f args'.toArray w (OnlyReturns fun v' w' => ∃ ρ', Did E.P X w0 ρ H res.H w res.v ρ' v' w') := by
                cases h1 : arun E N (.code false (compile E.P share (keepOf fn c) c) ((keepOf fn c).map fun t => (args[t]?).getD undef) H []) with
                | none => rw [h1] at h; cases h
                | some res1 =>
                  rw [h1] at h
                  have hb := ih.code _ _ _ _ _ _ h1 share (keepOf fn c) c rfl X w0 ρ w { tmps := args'.toArray ++ Array.replicate (fn.ntmps - args'.toArray.size) undef, defers := [] } fn.ntmps none n hname.2
                    ⟨fun _ => rfl, enter_rel hv, hn, enter_size, .nil⟩
                  refine callsIn_of_wp_marks hfn hbody trivial (wpIn_mono hb fun ex a1 w1 hp => ?_)
                  obtain ⟨e, T1, H1, ds1, v1⟩ := res1
                  obtain ⟨hex, ρ1, hg, ht, hnt, hd⟩ := hp
                  have hret : ∀ (hh : sRet ⟨keepOf fn c, rs, compile E.P share (keepOf fn c) c⟩ T1 (shut H1 ds1) = some res),
                      LeavesInM (FW none) n E.P fn a1.tmps (OnlyReturns fun v' w' => ∃ ρ', Did E.P X w0 ρ H res.H w res.v ρ' v' w') a1.defers .returning w1 := by
                    intro hh
                    unfold sRet at hh
                    split at hh
                    · rename_i H2 hs2
                      split at hh
                      · rename_i vs hvs
                        injection hh with hh
                        subst hh
                        refine leaves_sound hrs hvs hd hg.now hs2 ht fun v' w' g hv' => ⟨ρ1, ?_⟩
                        have g2 := hg.trans g
                        exact ⟨g2.le, g2.now, hv', g2.size, g2.heap, g2.names⟩
                      · cases hh
                    · cases hh
                  subst hex
                  cases e with
                  | norm => exact hret h
                  | ret => exact hret h
                  | exit id => cases h
                  | goto l => cases h
              exact key
          · cases hcf
        · cases hcf
      · cases hcf
    · cases h

/-! ### Rounds -/
theorem zip_fold (ps : Array Nat) (args : List Value) (tmps : Array Value) : (ps.zip args.toArray).foldl (fun tmps (x : Nat × Value) => tmps.setIfInBounds x.1 x.2) tmps = (ps.toList.zip args).foldl (fun tmps (x : Nat × Value) => tmps.setIfInBounds x.1 x.2) tmps := by
  rw [← Array.foldl_toList, Array.toList_zip]
theorem round_step (ih : AllOk E N) (l : Nat) (args : List Value) (H : AH V) (res : Res V) (h : arun E (N + 1) (.round l args H) = some res) : RoundOk E.P l args H res.v res.H := by
  intro X w0 ρ w args' cl co hρ hv hn
  simp only [arun, astep] at h
  unfold sRound at h
  split at h
  · rename_i T ps as_ bd hb
    split at h
    · rename_i T1 hT1
      have hblk := hn.st.blk l _ hρ
      rw [view_some hb] at hblk
      obtain ⟨hX, r, share, keep, nt, h1, h2, ⟨n1, n2, n3, n4⟩, rfl, rfl, rfl, hst, hpe⟩ := hblk
      obtain ⟨q1, q2, q3⟩ := setParams_rel h2 hv hT1
      refine ⟨_, by
        simp only [Instr.yield, Sem.run_bind, run_getLoop h1, Result.andThen_ok]
        rw [if_neg (by simp [q1])]
        rfl, fun r' n => ?_⟩
      show RoundIn (FW r') n E.P cl r.fn _ r.assign r.body w _
      rw [zip_fold]
      unfold sRoundMid at h
      split at h
      · rename_i T2 H2 v2 hA
        have hA' := ih.code _ _ _ _ _ _ hA share keep r.assign rfl X w0 ρ w { tmps := (r.params.toList.zip args').foldl (fun tmps (x : Nat × Value) => tmps.setIfInBounds x.1 x.2) r.tmps, defers := [] } nt (some cl) n n2
          ⟨fun hf => (by cases hf), q2, hn, Nat.le_trans n1 (Nat.le_of_eq q3.symm), .nil⟩
        refine roundIn_of_wpIn (F := FW r') trivial (wpIn_mono hA' fun ex a1 w1 hp => ?_)
        obtain ⟨hex, ρ1, hg, ht, hnt, hd⟩ := hp
        subst hex
        split at h
        · rename_i B hB
          unfold toBusy at hB
          split at hB
          · rename_i T3 ps3 as3 bd3 hb3
            injection hB with hB
            subst hB
            have hρ1 := (hg.le _ _ hρ).1
            have hblk1 := hg.now.st.blk l _ hρ1
            rw [view_some hb3] at hblk1
            obtain ⟨hX1, r1, share1, keep1, nt1, g1, g2, g3, g4, g5, g6, g7, g8⟩ := hblk1
            have hlt1 := hg.now.st.dom l _ hρ1
            have hbusy : Now E.P X w0 ρ1 (Vec.set H2 l (.loop T3 ps3 as3 bd3 .busy none)) (setBlk w1 cl (.loop { r1 with state := .busy })) := by
              refine ⟨?_, fun b p hbp => by rw [Vec.size_set]; exact hg.now.dom b p hbp⟩
              rw [view_set hb3]
              refine hg.now.st.turn hρ1 (by rw [view_some hb3]; trivial) _ ⟨hX1, { r1 with state := .busy }, share1, keep1, nt1, ?_, g2, g3, g4, g5, g6, rfl, g8⟩ (.inl trivial)
              rw [setBlk_get _ _ hlt1, if_pos rfl]
            refine ⟨_, run_beginRound g1 g7, ?_⟩
            unfold sRoundEnd at h
            split at h
            · rename_i e T4 H4 v4 hBd
              have hBd' := ih.code _ _ _ _ _ _ hBd share keep r.body rfl X w0 ρ1 _ a1 nt (some cl) n n3 ⟨fun hf => (by cases hf), ht, hbusy, hnt, hd⟩
              refine wpIn_mono hBd' fun ex a2 w2 hp2 => ?_
              obtain ⟨hex2, ρ2, hg2, ht2, hnt2, hd2⟩ := hp2
              subst hex2
              have hgg : Gone E.P X w0 ρ H w ρ2 H4 w2 := by
                refine hg.trans ⟨hg2.le, hg2.now, ?_, ?_, hg2.names⟩
                · have := hg2.size; rwa [Vec.size_set] at this
                · have := hg2.heap; simpa [setBlk] using this
              split at h
              · rename_i B2 hB2
                injection h with h
                subst h
                unfold toEnd at hB2
                split at hB2
                · rename_i T5 ps5 as5 bd5 hb5
                  have hρ2 := (hg2.le _ _ hρ1).1
                  have hblk2 := hg2.now.st.blk l _ hρ2
                  rw [view_some hb5] at hblk2
                  obtain ⟨hX2, r2, share2, keep2, nt2, k1, k2, k3, k4, k5, k6, k7, k8⟩ := hblk2
                  have hlt2 := hg2.now.st.dom l _ hρ2
                  have hend : ∀ (st : LoopState) (pe : Option AE), Did E.P X w0 ρ H (Vec.set H4 l (.loop T5 ps5 as5 bd5 st pe)) w (.bool (isNorm e)) ρ2 (.bool (isNorm e)) (setBlk w2 cl (.loop { r2 with state := st, pending := pe.map AE.code })) := by
                    intro st pe
                    refine ⟨hgg.le, ⟨?_, fun b p hbp => by rw [Vec.size_set]; exact hgg.now.dom b p hbp⟩, .flat rfl, by rw [Vec.size_set]; exact hgg.size, by simpa [setBlk] using hgg.heap, hgg.names⟩
                    rw [view_set hb5]
                    refine hg2.now.st.turn hρ2 (by rw [view_some hb5]; trivial) _ ⟨hX2, { r2 with state := st, pending := pe.map AE.code }, share2, keep2, nt2, ?_, k2, k3, k4, k5, k6, rfl, rfl⟩ (.inl trivial)
                    rw [setBlk_get _ _ hlt2, if_pos rfl]
                  cases e with
                  | norm =>
                    simp only [Option.some.injEq] at hB2
                    subst hB2
                    exact ⟨_, _, run_endRound k1 none, _, rfl, ρ2, hend .ready none⟩
                  | exit id =>
                    simp only [Option.some.injEq] at hB2
                    subst hB2
                    exact ⟨_, _, run_endRound k1 (some (.exit id)), _, rfl, ρ2, hend .done (some (.exit id))⟩
                  | goto t =>
                    simp only [Option.some.injEq] at hB2
                    subst hB2
                    exact ⟨_, _, run_endRound k1 (some (.goto t)), _, rfl, ρ2, hend .done (some (.goto t))⟩
                  | ret =>
                    simp only [Option.some.injEq] at hB2
                    subst hB2
                    exact ⟨_, _, run_endRound k1 (some .ret), _, rfl, ρ2, hend .done (some .ret)⟩
                · cases hB2
              · cases h
            · cases h
          · cases hB
        · cases h
      · cases h
    · cases h
  · cases h
end
end Go.Proofs.Ytdbehmepikhghaa.AM
