import Derived.Test.YtggaimcopbjdiaaAMa
import Derived.WalkKit
import Derived.ProofKit
import Derived.ChangeSlices
import Derived.ChangeArms
import Derived.SizedLaws
set_option linter.unusedVariables false
set_option linter.unusedSimpArgs false
namespace Go.Proofs.Ytggaimcopbjdiaa.AM
section
variable {V : Type → Type} [Vec V] {E : Env V} {N : Nat}
theorem post_here {P : Program} {X : Nat → Option Obj} {w0 w : World} {ρ : Rho} {H : AH V} {keep : List Nat} {nt : Nat} {a : Act} {inR : Bool} {T : AT} {ds : List Nat} {r : Option Nat} (e : AE) (h : CtxOk P keep inR T H ds X w0 ρ w a nt r) :
  Post P X w0 ρ H w keep nt e T H ds e.exit' a w := ⟨rfl, ρ, Gone.refl h.now, h.tmps, h.nt, h.defers⟩
theorem kept_eval {P : Program} {X : Nat → Option Obj} {w0 w : World} {ρ : Rho} {H : AH V} {keep : List Nat} {nt : Nat} {a : Act} {inR : Bool} {T : AT} {ds : List Nat} {r : Option Nat} (h : CtxOk P keep inR T H ds X w0 ρ w a nt r)
  {x : Operand} {s : Src} (hs : keptSrc keep x = some s) {v : Value} (hv : sev T [] s = some v) : VRel ρ v (a.eval x) := by
 have := h.tmps.mrel.erel (a := a) x v
 refine this ?_
 simp only [List.length_nil]
 unfold keptSrc at hs
 rw [hs]
 exact hv
theorem loop_step (ih : AllOk E N) (inR : Bool) (c : ACode) (T : AT) (H : AH V) (ds : List Nat) (res : Res V) (h : arun E (N + 1) (.code inR (.loop c) T H ds) = some res) : LoopOk E.P inR c T H ds res := by
 intro share keep cc hc X w0 ρ w a nt r n hok hx
 simp only [arun, astep, sCode] at h
 obtain ⟨res1, h1⟩ := sSeq_some h
 rw [h1] at h
 have hb := ih.code _ _ _ _ _ _ h1 share keep cc hc X w0 ρ w a nt r n hok hx
 refine loopIn_of (wpIn_mono hb (then_post h hx.out fun ρ1 a1 w1 h2 hg hx1 => ?_))
 intro b k cs q1 q2 q3
 obtain ⟨e, a', w', hq, harr⟩ := ih.loop _ _ _ _ _ _ h2 share keep cc hc X w0 ρ1 w1 a1 nt r n hok hx1 b k cs q1 q2 q3
 exact ⟨e, a', w', Post.trans hg hq, harr⟩
theorem scope_step (ih : AllOk E N) (inR : Bool) (b cur : ACode) (T : AT) (H : AH V) (ds : List Nat) (res : Res V) (h : arun E (N + 1) (.scope inR b cur T H ds) = some res) : ScopeOk E.P inR b cur T H ds res := by
 intro share keep cb cc hcb hcc X w0 ρ w a nt r n hok hok2 hx
 simp only [arun, astep] at h
 cases h1 : arun E N (.code inR cur T H ds) with
 | none => rw [h1] at h; cases h
 | some res1 =>
   rw [h1] at h
   have hb := ih.code _ _ _ _ _ _ h1 share keep cc hcc X w0 ρ w a nt r n hok2 hx
   refine scopeIn_of (wpIn_mono hb fun ex a1 w1 hp => ?_)
   obtain ⟨e, T1, H1, ds1, v1⟩ := res1
   obtain ⟨hex, ρ1, hg, ht, hnt, hd⟩ := hp
   subst hex
   cases e with
   | norm => simp only [sScope, Option.some.injEq] at h; subst h; exact ⟨rfl, ρ1, hg, ht, hnt, hd⟩
   | exit id => simp only [sScope, Option.some.injEq] at h; subst h; exact ⟨rfl, ρ1, hg, ht, hnt, hd⟩
   | ret => simp only [sScope, Option.some.injEq] at h; subst h; exact ⟨rfl, ρ1, hg, ht, hnt, hd⟩
   | goto l =>
     simp only [sScope] at h
     rw [hcb, afind_compile] at h
     show (match findLabel cb l with | some rest => _ | none => _)
     cases hf : findLabel cb l with
     | none =>
       rw [hf] at h
       simp only [Option.map_none, Option.some.injEq] at h
       subst h
       exact ⟨rfl, ρ1, hg, ht, hnt, hd⟩
     | some rest =>
       rw [hf] at h
       simp only [Option.map_some] at h
       rw [← hcb] at h
       intro b' k cs q1 q2 q3
       obtain ⟨e, a', w', hq, harr⟩ := ih.scope _ _ _ _ _ _ _ h share keep cb rest hcb rfl X w0 ρ1 w1 a1 nt r n hok (cOk_find hf hok) ⟨hx.out, ht, hg.now, hnt, hd⟩ b' k cs q1 q2 q3
       exact ⟨e, a', w', Post.trans hg hq, harr⟩
theorem leaves_sound {P : Program} {X : Nat → Option Obj} {w0 : World} {keep : List Nat} {T : AT} {n : Nat} {fn : Func} {ars : List ARes} {vs : List Value} {H' : AH V} {tmps : Array Value} {R : Value → World → Prop} {r : Option Nat}
  (hc : mapOpt (compileRes P keep) fn.results.toList = some ars) (hv : ares T H' ars = some vs) : ∀ {ds : List Nat} {Ds : List Deferred} {ρ : Rho} {H : AH V} {w : World}, DRel ρ ds Ds → Now P X w0 ρ H w → shut H ds = some H' → TRel ρ keep T tmps →
  (∀ v' w', Gone P X w0 ρ H w ρ H' w' → VRel ρ (pack vs) v' → R v' w') → LeavesInM (FW r) n P fn tmps (OnlyReturns R) Ds .returning w := by
 intro ds
 induction ds with
 | nil =>
   intro Ds ρ H w hD hn hs hT hR
   cases hD
   simp only [shut, Option.some.injEq] at hs
   subst hs
   obtain ⟨v', h1, h2⟩ := results_sound hn hT hc hv
   exact ⟨v', h2, v', rfl, hR v' w (Gone.refl hn) h1⟩
 | cons d ds ih =>
   intro Ds ρ H w hD hn hs hT hR
   cases hD with
   | @cons _ cb co D _ Ds' hp ht htl =>
     simp only [shut] at hs
     split at hs
     ·rename_i hb
      have hvb := view_some hb
      have hblk := hn.st.blk d _ hp
      rw [hvb] at hblk
      have hlt := hn.st.dom d _ hp
      refine ⟨by simp, .inl ⟨cb, _, ht, run_take hblk.2, ?_⟩⟩
      have hn1 : Now P X w0 ρ (Vec.set H d .dead) (setBlk w cb (.deferred none)) := by
       refine ⟨?_, fun b p hbp => by rw [Vec.size_set]; exact hn.dom b p hbp⟩
       rw [view_set hb]
       exact hn.st.turn hp (by rw [hvb]; trivial) _ trivial (.inr rfl)
      refine ih htl hn1 hs hT fun v' w' g hv' => hR v' w' ⟨g.le, g.now, by have := g.size; rwa [Vec.size_set] at this, by have := g.heap; simpa [setBlk] using this, g.names⟩ hv'
     ·cases hs
theorem mem_idx {keep : List Nat} {t i : Nat} (h : keep.idxOf? t = some i) : t ∈ keep := List.mem_iff_getElem?.2 ⟨i, idx_get h⟩
theorem keep_lt {fn : Func} {c : Code} {t : Nat} (h : t ∈ keepOf fn c) : t < fn.ntmps := by
 unfold keepOf at h
 have := List.mem_filter.1 h
 exact List.mem_range.1 this.1
theorem enter_rel {ρ : Rho} {fn : Func} {c : Code} {args args' : List Value} (hv : VRels ρ args args') :
  TRel ρ (keepOf fn c) ((keepOf fn c).map fun t => (args[t]?).getD undef) (args'.toArray ++ Array.replicate (fn.ntmps - args'.toArray.size) undef) := by
 intro t i hi
 have hlt := keep_lt (mem_idx hi)
 have hk := idx_get hi
 have hl := hv.length
 by_cases ht : t < args.length
 ·have hg : args[t]? = some args[t] := List.getElem?_eq_getElem ht
  obtain ⟨v', h1, h2⟩ := hv.get hg
  refine ⟨args[t], v', by simp [hk, hg], ?_, h2⟩
  rw [Array.getElem?_append_left (by simp; omega)]
  simpa using h1
 ·refine ⟨undef, undef, by simp [hk, List.getElem?_eq_none (Nat.le_of_not_lt ht)], ?_, .flat rfl⟩
  rw [Array.getElem?_append_right (by simp; omega), Array.getElem?_replicate, if_pos (by simp; omega)]
theorem enter_size {fn : Func} {args' : List Value} : fn.ntmps ≤ (args'.toArray ++ Array.replicate (fn.ntmps - args'.toArray.size) undef).size := by
 simp; omega
theorem call_step (hE : EnvOk E) (ih : AllOk E N) (f : FuncId) (args : List Value) (H : AH V) (res : Res V) (h : arun E (N + 1) (.call f args H) = some res) : CallsOk E.P f args H res.v res.H := by
 simp only [arun, astep] at h
 cases hx : E.ext f args H with
 | some p =>
   obtain ⟨v, H'⟩ := p
   rw [hx] at h
   simp only [sExt, Option.some.injEq] at h
   subst h
   exact hE.ext _ _ _ _ _ hx
 | none =>
   rw [hx] at h
   simp only [sExt] at h
   unfold sCall at h
   split at h
   ·rename_i afn hf
    obtain ⟨share, hcf⟩ := hE.fn f afn hf
    unfold compileFn at hcf
    split at hcf
    ·rename_i fn hfn
     split at hcf
     ·rename_i c hbody
      split at hcf
      ·rename_i rs hrs
       split at hcf
       ·cases hcf
       ·rename_i hname
        injection hcf with hcf
        subst hcf
        simp only [Bool.or_eq_true, not_or, Bool.not_eq_true, Bool.not_eq_false'] at hname
        refine ⟨⟨fn, c, hfn, hbody, hname.1⟩, fun X w0 ρ w args' hv hn r n => ?_⟩
        simp only at h
        have key : CallsIn (FW none) n E.P f args'.toArray w (OnlyReturns fun v' w' => ∃ ρ', Did E.P X w0 ρ H res.H w res.v ρ' v' w') := by
         cases h1 : arun E N (.code false (compile E.P share (keepOf fn c) c) ((keepOf fn c).map fun t => (args[t]?).getD undef) H []) with
         | none => rw [h1] at h; cases h
         | some res1 =>
           rw [h1] at h
           have hb := ih.code _ _ _ _ _ _ h1 share (keepOf fn c) c rfl X w0 ρ w { tmps := args'.toArray ++ Array.replicate (fn.ntmps - args'.toArray.size) undef, defers := [] } fn.ntmps none n hname.2
            ⟨fun _ => rfl, enter_rel hv, hn, enter_size, .nil⟩
           refine callsIn_of_wp_marks hfn hbody trivial (wpIn_mono hb fun ex a1 w1 hp => ?_)
           obtain ⟨e, T1, H1, ds1, v1⟩ := res1
           obtain ⟨hex, ρ1, hg, ht, hnt, hd⟩ := hp
           have hret : ∀ (hh : sRet ⟨keepOf fn c, rs, compile E.P share (keepOf fn c) c⟩ T1 (shut H1 ds1) = some res),
             LeavesInM (FW none) n E.P fn a1.tmps (OnlyReturns fun v' w' => ∃ ρ', Did E.P X w0 ρ H res.H w res.v ρ' v' w') a1.defers .returning w1 := by
            intro hh
            unfold sRet at hh
            split at hh
            ·rename_i H2 hs2
             split at hh
             ·rename_i vs hvs
              injection hh with hh
              subst hh
              refine leaves_sound hrs hvs hd hg.now hs2 ht fun v' w' g hv' => ⟨ρ1, ?_⟩
              have g2 := hg.trans g
              exact ⟨g2.le, g2.now, hv', g2.size, g2.heap, g2.names⟩
             ·cases hh
            ·cases hh
           subst hex
           cases e with
           | norm => exact hret h
           | ret => exact hret h
           | exit id => cases h
           | goto l => cases h
        exact key
      ·cases hcf
     ·cases hcf
    ·cases hcf
   ·cases h
theorem zip_fold (ps : Array Nat) (args : List Value) (tmps : Array Value) : (ps.zip args.toArray).foldl (fun tmps (x : Nat × Value) => tmps.setIfInBounds x.1 x.2) tmps = (ps.toList.zip args).foldl (fun tmps (x : Nat × Value) => tmps.setIfInBounds x.1 x.2) tmps := by
 rw [← Array.foldl_toList, Array.toList_zip]
theorem round_step (ih : AllOk E N) (l : Nat) (args : List Value) (H : AH V) (res : Res V) (h : arun E (N + 1) (.round l args H) = some res) : RoundOk E.P l args H res.v res.H := by
 intro X w0 ρ w args' cl co hρ hv hn
 simp only [arun, astep] at h
 unfold sRound at h
 split at h
 ·rename_i T ps as_ bd hb
  split at h
  ·rename_i T1 hT1
   have hblk := hn.st.blk l _ hρ
   rw [view_some hb] at hblk
   obtain ⟨hX, r, share, keep, nt, h1, h2, ⟨n1, n2, n3, n4⟩, rfl, rfl, rfl, hst, hpe⟩ := hblk
   obtain ⟨q1, q2, q3⟩ := setParams_rel h2 hv hT1
   refine ⟨_, by
    simp only [Instr.yield, Sem.run_bind, run_getLoop h1, Result.andThen_ok]
    rw [if_neg (by simp [q1])]
    rfl, fun r' n => ?_⟩
   show RoundIn (FW r') n E.P cl r.fn _ r.assign r.body w _
   rw [zip_fold]
   unfold sRoundMid at h
   split at h
   ·rename_i T2 H2 v2 hA
    have hA' := ih.code _ _ _ _ _ _ hA share keep r.assign rfl X w0 ρ w { tmps := (r.params.toList.zip args').foldl (fun tmps (x : Nat × Value) => tmps.setIfInBounds x.1 x.2) r.tmps, defers := [] } nt (some cl) n n2
     ⟨fun hf => (by cases hf), q2, hn, Nat.le_trans n1 (Nat.le_of_eq q3.symm), .nil⟩
    refine roundIn_of_wpIn (F := FW r') trivial (wpIn_mono hA' fun ex a1 w1 hp => ?_)
    obtain ⟨hex, ρ1, hg, ht, hnt, hd⟩ := hp
    subst hex
    split at h
    ·rename_i B hB
     unfold toBusy at hB
     split at hB
     ·rename_i T3 ps3 as3 bd3 hb3
      injection hB with hB
      subst hB
      have hρ1 := (hg.le _ _ hρ).1
      have hblk1 := hg.now.st.blk l _ hρ1
      rw [view_some hb3] at hblk1
      obtain ⟨hX1, r1, share1, keep1, nt1, g1, g2, g3, g4, g5, g6, g7, g8⟩ := hblk1
      have hlt1 := hg.now.st.dom l _ hρ1
      have hbusy : Now E.P X w0 ρ1 (Vec.set H2 l (.loop T3 ps3 as3 bd3 .busy none)) (setBlk w1 cl (.loop { r1 with state := .busy })) := by
       refine ⟨?_, fun b p hbp => by rw [Vec.size_set]; exact hg.now.dom b p hbp⟩
       rw [view_set hb3]
       refine hg.now.st.turn hρ1 (by rw [view_some hb3]; trivial) _ ⟨hX1, { r1 with state := .busy }, share1, keep1, nt1, ?_, g2, g3, g4, g5, g6, rfl, g8⟩ (.inl trivial)
       rw [setBlk_get _ _ hlt1, if_pos rfl]
      refine ⟨_, run_beginRound g1 g7, ?_⟩
      unfold sRoundEnd at h
      split at h
      ·rename_i e T4 H4 v4 hBd
       have hBd' := ih.code _ _ _ _ _ _ hBd share keep r.body rfl X w0 ρ1 _ a1 nt (some cl) n n3 ⟨fun hf => (by cases hf), ht, hbusy, hnt, hd⟩
       refine wpIn_mono hBd' fun ex a2 w2 hp2 => ?_
       obtain ⟨hex2, ρ2, hg2, ht2, hnt2, hd2⟩ := hp2
       subst hex2
       have hgg : Gone E.P X w0 ρ H w ρ2 H4 w2 := by
        refine hg.trans ⟨hg2.le, hg2.now, ?_, ?_, hg2.names⟩
        ·have := hg2.size; rwa [Vec.size_set] at this
        ·have := hg2.heap; simpa [setBlk] using this
       split at h
       ·rename_i B2 hB2
        injection h with h
        subst h
        unfold toEnd at hB2
        split at hB2
        ·rename_i T5 ps5 as5 bd5 hb5
         have hρ2 := (hg2.le _ _ hρ1).1
         have hblk2 := hg2.now.st.blk l _ hρ2
         rw [view_some hb5] at hblk2
         obtain ⟨hX2, r2, share2, keep2, nt2, k1, k2, k3, k4, k5, k6, k7, k8⟩ := hblk2
         have hlt2 := hg2.now.st.dom l _ hρ2
         have hend : ∀ (st : LoopState) (pe : Option AE), Did E.P X w0 ρ H (Vec.set H4 l (.loop T5 ps5 as5 bd5 st pe)) w (.bool (isNorm e)) ρ2 (.bool (isNorm e)) (setBlk w2 cl (.loop { r2 with state := st, pending := pe.map AE.code })) := by
          intro st pe
          refine ⟨hgg.le, ⟨?_, fun b p hbp => by rw [Vec.size_set]; exact hgg.now.dom b p hbp⟩, .flat rfl, by rw [Vec.size_set]; exact hgg.size, by simpa [setBlk] using hgg.heap, hgg.names⟩
          rw [view_set hb5]
          refine hg2.now.st.turn hρ2 (by rw [view_some hb5]; trivial) _ ⟨hX2, { r2 with state := st, pending := pe.map AE.code }, share2, keep2, nt2, ?_, k2, k3, k4, k5, k6, rfl, rfl⟩ (.inl trivial)
          rw [setBlk_get _ _ hlt2, if_pos rfl]
         cases e with
         | norm =>
           simp only [Option.some.injEq] at hB2
           subst hB2
           exact ⟨_, _, run_endRound k1 none, _, rfl, ρ2, hend .ready none⟩
         | exit id =>
           simp only [Option.some.injEq] at hB2
           subst hB2
           exact ⟨_, _, run_endRound k1 (some (.exit id)), _, rfl, ρ2, hend .done (some (.exit id))⟩
         | goto t =>
           simp only [Option.some.injEq] at hB2
           subst hB2
           exact ⟨_, _, run_endRound k1 (some (.goto t)), _, rfl, ρ2, hend .done (some (.goto t))⟩
         | ret =>
           simp only [Option.some.injEq] at hB2
           subst hB2
           exact ⟨_, _, run_endRound k1 (some .ret), _, rfl, ρ2, hend .done (some .ret)⟩
        ·cases hB2
       ·cases h
      ·cases h
     ·cases hB
    ·cases h
   ·cases h
  ·cases h
 ·cases h
end
end Go.Proofs.Ytggaimcopbjdiaa.AM
namespace Go.Proofs.Ytggaimcopbjdiaa.AM
section
variable {V : Type → Type} [Vec V] {E : Env V} {N : Nat}
theorem compile_region (P : Program) (share : Bool) (keep : List Nat) (id : Nat) (ops : Array Oper) (d : Bool) : compile P share keep (.region id ops d) = compileRegion P share keep ops d := rfl
theorem region_kind {P : Program} {share : Bool} {keep : List Nat} {ops : Array Oper} {d : Bool} :
  compileRegion P share keep ops d = .bad ∨ (d = false ∧ ∃ al back, compileRegion P share keep ops d = .region al back) ∨ (d = true ∧ ∃ al back, compileRegion P share keep ops d = .draw al back) := by
 unfold compileRegion
 cases d with
 | true =>
   simp only [if_true]
   split
   ·split
    ·exact .inr (.inr ⟨trivial, _, _, rfl⟩)
    ·exact .inl rfl
   ·exact .inl rfl
 | false =>
   simp only [Bool.false_eq_true, if_false]
   split
   ·exact .inr (.inl ⟨trivial, _, _, rfl⟩)
   ·exact .inl rfl
theorem block_post {P : Program} {X : Nat → Option Obj} {w0 w : World} {ρ : Rho} {H : AH V} {keep : List Nat} {nt id : Nat} {res1 res : Res V} (hr : sBlock id (some res1) = some res) :
  ∀ ex a1 w1, Post P X w0 ρ H w keep nt res1.e res1.T res1.H res1.ds ex a1 w1 → Exit.inBlock id (Post P X w0 ρ H w keep nt res.e res.T res.H res.ds) ex a1 w1 := by
 intro ex a1 w1 hp
 obtain ⟨e, T1, H1, ds1, v1⟩ := res1
 obtain ⟨hex, ρ1, hq⟩ := hp
 subst hex
 cases e with
 | norm => simp only [sBlock, Option.some.injEq] at hr; subst hr; exact ⟨rfl, ρ1, hq⟩
 | goto l => simp only [sBlock, Option.some.injEq] at hr; subst hr; exact ⟨rfl, ρ1, hq⟩
 | ret => simp only [sBlock, Option.some.injEq] at hr; subst hr; exact ⟨rfl, ρ1, hq⟩
 | exit i =>
   simp only [sBlock] at hr
   show (if i = id then _ else _)
   by_cases hi : i = id
   ·subst hi
    rw [if_pos rfl]
    simp only [Nat.beq_refl, cond_true, Option.some.injEq] at hr
    subst hr
    exact ⟨rfl, ρ1, hq⟩
   ·rw [if_neg hi]
    have : Nat.beq i id = false := by
     rw [← Bool.not_eq_true, Nat.beq_eq]; exact hi
    simp only [this, cond_false, Option.some.injEq] at hr
    subst hr
    exact ⟨rfl, ρ1, hq⟩
theorem range_sound (hE : EnvOk E) (ih : AllOk E N) {inR share : Bool} {keep : List Nat} {g : Operand} {gs : Src} {ps : Array Nat} {as_ bd : Code} {T : AT} {H : AH V} {ds : List Nat} {res : Res V}
  (hg : keptSrc keep g = some gs) (h : sRange (arun E N) inR (ps.toList.map fun t => keep.idxOf? t) (compile E.P share keep as_) (compile E.P share keep bd) T H ds (sev T [] gs) = some res)
  {X : Nat → Option Obj} {w0 : World} {ρ : Rho} {w : World} {a : Act} {nt : Nat} {r : Option Nat} {n : Nat} (hok : cOk nt (.rangeFunc g ps as_ bd) = true) (hx : CtxOk E.P keep inR T H ds X w0 ρ w a nt r) :
  (Code.rangeFunc g ps as_ bd).wpIn (FW r) n E.P (Post E.P X w0 ρ H w keep nt res.e res.T res.H res.ds) a w := by
 unfold sRange at h
 split at h
 case h_2 => cases h
 rename_i f first captured hgv
 have hr : r = none := hx.out rfl
 subst hr
 have hev := kept_eval hx hg hgv
 obtain ⟨a', c', hge, hra, hrc⟩ := hev.fn_inv
 simp only [cOk, Bool.and_eq_true] at hok
 obtain ⟨ok1, ok2, ok3⟩ := hok
 cases h1 : arun E N (.call f (first.toList ++ [.func (.yield (Vec.size H + 1)) #[] #[]] ++ captured.toList) (Vec.push (Vec.push H .defr) (.loop T (ps.toList.map fun t => keep.idxOf? t) (compile E.P share keep as_) (compile E.P share keep bd) .ready none))) with
 | none => rw [h1] at h; cases h
 | some res1 =>
   rw [h1] at h
   obtain ⟨⟨fn0, c0, q1, q2, q3⟩, hcall⟩ := ih.call _ _ _ _ h1
   refine wpIn_rangeFunc fun fn _ => ?_
   -- the two new blocks
   let w1 : World := { w with heap := w.heap.push (.deferred (some [])) }
   let r0 : Loop := { state := .ready, pending := none, fn, tmps := a.tmps, params := ps, assign := as_, body := bd, defers := w.heap.size }
   let w2 : World := { w1 with heap := w1.heap.push (.loop r0) }
   have hn0 := hx.now
   have hid : ρ (Vec.size H) = none := hn0.fresh
   have hn1 : Now E.P X w0 (ρ.upd (Vec.size H) (w.heap.size, 0) none) (Vec.push H .defr) w1 := by
    refine ⟨?_, fun b p hb => ?_⟩
    ·rw [view_push]
     have hv : St E.P X w0 ρ (setB (view H) (Vec.size H) .defr) w := hn0.st.view fun b p hb => by
      have := hn0.dom b p hb
      rw [setB_ne _ _ (by omega)]
     refine hv.push _ hid none ?_ (fun cs lo hb => by rw [setB_same] at hb; cases hb)
     rw [setB_same]
     exact ⟨hn0.st.fresh, by simp⟩
    ·rw [Vec.size_push]
     by_cases e : b = Vec.size H
     ·omega
     ·rw [Rho.upd_ne ρ _ _ e] at hb
      have := hn0.dom b p hb
      omega
   have hw1 : w1.heap.size = w.heap.size + 1 := by simp [w1]
   have hid1 : (ρ.upd (Vec.size H) (w.heap.size, 0) none) (Vec.size H + 1) = none := by
    have := hn1.fresh
    rwa [Vec.size_push] at this
   have hle1 : ρ.le (ρ.upd (Vec.size H) (w.heap.size, 0) none) := Rho.le_upd _ _ hid
   have hle2 : (ρ.upd (Vec.size H) (w.heap.size, 0) none).le ((ρ.upd (Vec.size H) (w.heap.size, 0) none).upd (Vec.size H + 1) (w1.heap.size, 0) none) := Rho.le_upd _ _ hid1
   have hn2 : Now E.P X w0 ((ρ.upd (Vec.size H) (w.heap.size, 0) none).upd (Vec.size H + 1) (w1.heap.size, 0) none) (Vec.push (Vec.push H .defr) (.loop T (ps.toList.map fun t => keep.idxOf? t) (compile E.P share keep as_) (compile E.P share keep bd) .ready none)) w2 := by
    refine ⟨?_, fun b p hb => ?_⟩
    ·rw [view_push, Vec.size_push]
     have hv : St E.P X w0 (ρ.upd (Vec.size H) (w.heap.size, 0) none) (setB (view (Vec.push H .defr)) (Vec.size H + 1) (.loop T (ps.toList.map fun t => keep.idxOf? t) (compile E.P share keep as_) (compile E.P share keep bd) .ready none)) w1 := hn1.st.view fun b p hb => by
      have := hn1.dom b p hb
      rw [Vec.size_push] at this
      rw [setB_ne _ _ (by omega)]
     refine hv.push _ hid1 none ?_ (fun cs lo hb => by rw [setB_same] at hb; cases hb)
     rw [setB_same]
     refine ⟨hn1.st.fresh, r0, share, keep, nt, by simp [r0], (hx.tmps.mono hle1).mono hle2, ⟨hx.nt, ok2, ok3, fun t ht => ?_⟩, rfl, rfl, rfl, rfl, rfl⟩
     have := List.all_eq_true.1 ok1 t ht
     simpa using this
    ·rw [Vec.size_push, Vec.size_push]
     by_cases e : b = Vec.size H + 1
     ·omega
     ·rw [Rho.upd_ne _ _ _ e] at hb
      have := hn1.dom b p hb
      rw [Vec.size_push] at this
      omega
   have hyl : VRel ((ρ.upd (Vec.size H) (w.heap.size, 0) none).upd (Vec.size H + 1) (w1.heap.size, 0) none) (.func (.yield (Vec.size H + 1)) #[] #[]) (.func (.yield w1.heap.size) #[] #[]) := .yld (co := 0) (Rho.upd_same _ _ _ _)
   have hargs : VRels ((ρ.upd (Vec.size H) (w.heap.size, 0) none).upd (Vec.size H + 1) (w1.heap.size, 0) none) (first.toList ++ [.func (.yield (Vec.size H + 1)) #[] #[]] ++ captured.toList) (a'.toList ++ [.func (.yield w1.heap.size) #[] #[]] ++ c'.toList) :=
    (((hra.mono hle1).mono hle2).append (.cons hyl .nil)).append ((hrc.mono hle1).mono hle2)
   have hC := hcall X w0 _ w2 _ hargs hn2 none (n - 1)
   have ea : (a'.toList ++ [Value.func (.yield w1.heap.size) #[] #[]] ++ c'.toList).toArray = a' ++ #[Value.func (.yield w1.heap.size) #[] #[]] ++ c' := by apply Array.ext'; simp
   rw [ea] at hC
   refine ⟨w1.heap.size, [{ target := .collected w.heap.size, args := #[] }], w2, { target := .fn (.func f) c', args := a' ++ #[Value.func (.yield w1.heap.size) #[] #[]] }, w2, f, a' ++ #[Value.func (.yield w1.heap.size) #[] #[]] ++ c', w2, ?_, ?_, fun _ _ => trivial, ?_, fun hd => (by cases hd), ?_⟩
   ·show (Instr.enterLoop fn a.tmps ps as_ bd none).run E.P w = _
    simp only [Instr.enterLoop, Sem.run_bind, run_newObj, Result.andThen_ok, Sem.run_pure]
    rfl
   ·have hmap : Array.map a.eval #[Operand.const (Value.func (.yield w1.heap.size) #[] #[])] = #[Value.func (.yield w1.heap.size) #[] #[]] := by simp [Act.eval]
    simp only [resolve, rangeCall, hge, Deferred.ofValue, Sem.run_pure, hmap]
   ·have h5 : fn0.name ≠ "runtime.NumGoroutine" := by simpa using q3
    simp [invoke, callFunc, q1, h5, q2]
   ·refine CallsIn.mono hC fun e w3 he => ?_
    obtain ⟨v', rfl, ρ3, hd3⟩ := he
    -- the end
    unfold sRangeEnd at h
    obtain ⟨e1, T1, H1, ds1, v1⟩ := res1
    simp only at h hd3
    have hρl := (hd3.le _ _ (Rho.upd_same _ _ _ _)).1
    have hρd := (hd3.le _ _ (hle2 _ _ (Rho.upd_same _ _ _ _)).1).1
    have hgone : Gone E.P X w0 ρ H w ρ3 H1 w3 := by
     refine ⟨(hle1.trans hle2).trans hd3.le, hd3.now, ?_, ?_, fun b p hb => ?_⟩
     ·have := hd3.size; rw [Vec.size_push, Vec.size_push] at this; omega
     ·have := hd3.heap; simp only [w2, w1, Array.size_push] at this; omega
     ·rcases hd3.names b p hb with hh | hh
      ·rcases names_upd (X := X) hn1.st.fresh b p hh with hh | hh
       ·exact names_upd (X := X) hn0.st.fresh b p hh
       ·exact .inr hh
      ·exact .inr hh
    have hT3 : TRel ρ3 keep T a.tmps := hx.tmps.mono hgone.le
    have hD3 : DRel ρ3 (Vec.size H :: ds) ([{ target := .collected w.heap.size, args := #[] }] ++ a.defers) := .cons hρd rfl (hx.defers.mono hgone.le)
    have hlt := hd3.now.st.dom _ _ hρl
    have hdead : ∀ {B0 : Blk} (hb : Vec.get H1 (Vec.size H + 1) = some B0) (hm : isMark B0) (o : Obj), Gone E.P X w0 ρ H w ρ3 (Vec.set H1 (Vec.size H + 1) .dead) (setBlk w3 w1.heap.size o) := by
     intro B0 hb hm o
     refine ⟨hgone.le, ⟨?_, fun b p hbp => by rw [Vec.size_set]; exact hgone.now.dom b p hbp⟩, by rw [Vec.size_set]; exact hgone.size, by simpa [setBlk] using hgone.heap, hgone.names⟩
     rw [view_set hb]
     exact hd3.now.st.turn hρl (by rw [view_some hb]; exact hm) o trivial (.inr rfl)
    split at h
    ·rename_i T5 ps5 as5 bd5 hb
     injection h with h
     subst h
     have hblk := hd3.now.st.blk _ _ hρl
     rw [view_some hb] at hblk
     obtain ⟨hX5, r5, _, _, _, k1, _, _, _, _, _, k7, k8⟩ := hblk
     refine ⟨_, _, run_endLoop k1 (by rw [k7]; simp), ?_⟩
     rw [k8]
     exact ⟨rfl, ρ3, hdead hb trivial _, hT3, hx.nt, hD3⟩
    ·rename_i T5 ps5 as5 bd5 e5 hb
     injection h with h
     subst h
     have hblk := hd3.now.st.blk _ _ hρl
     rw [view_some hb] at hblk
     obtain ⟨hX5, r5, _, _, _, k1, _, _, _, _, _, k7, k8⟩ := hblk
     refine ⟨_, _, run_endLoop k1 (by rw [k7]; simp), ?_⟩
     rw [k8]
     exact wpIn_code e5 ⟨rfl, ρ3, hdead hb trivial _, hT3, hx.nt, hD3⟩
    ·cases h
theorem code_step (hE : EnvOk E) (ih : AllOk E N) (inR : Bool) (c : ACode) (T : AT) (H : AH V) (ds : List Nat) (res : Res V) (h : arun E (N + 1) (.code inR c T H ds) = some res) (hloop : ∀ b, c = .loop b → LoopOk E.P inR b T H ds res) : CodeOk E.P inR c T H ds res := by
 intro share keep cc hc X w0 ρ w a nt r n hok hx
 simp only [arun, astep] at h
 cases cc with
 | skip =>
   subst hc
   simp only [compile, sCode, Option.some.injEq] at h
   subst h
   exact wpIn_skip (post_here .norm hx)
 | label l =>
   subst hc
   simp only [compile, sCode, Option.some.injEq] at h
   subst h
   exact wpIn_label (post_here .norm hx)
 | ret =>
   subst hc
   simp only [compile, sCode, Option.some.injEq] at h
   subst h
   exact wpIn_ret (post_here .ret hx)
 | exit id =>
   subst hc
   simp only [compile, sCode, Option.some.injEq] at h
   subst h
   exact wpIn_exit (post_here (.exit id) hx)
 | goto l =>
   subst hc
   simp only [compile, sCode, Option.some.injEq] at h
   subst h
   exact wpIn_goto (post_here (.goto l) hx)
 | refuse u =>
   subst hc
   simp only [compile, sCode] at h
   cases h
 | seq x y =>
   subst hc
   simp only [compile, sCode] at h
   simp only [cOk, Bool.and_eq_true] at hok
   obtain ⟨res1, h1⟩ := sSeq_some h
   rw [h1] at h
   have hb := ih.code _ _ _ _ _ _ h1 share keep x rfl X w0 ρ w a nt r n hok.1 hx
   refine wpIn_seq (wpIn_mono hb (then_post h hx.out fun ρ1 a1 w1 h2 hg hx1 => ?_))
   exact wpIn_mono (ih.code _ _ _ _ _ _ h2 share keep y rfl X w0 ρ1 w1 a1 nt r n hok.2 hx1) fun _ _ _ hp => Post.trans hg hp
 | cond cnd x y =>
   simp only [compile] at hc
   simp only [cOk, Bool.and_eq_true] at hok
   cases hk : keptSrc keep cnd with
   | none =>
     rw [hk] at hc
     subst hc
     cases h
   | some s =>
     rw [hk] at hc
     subst hc
     simp only [sCode] at h
     unfold sCond at h
     split at h
     ·rename_i t ht
      have he := (kept_eval hx hk ht).bool
      refine wpIn_cond he ?_
      cases t with
      | true => exact ih.code _ _ _ _ _ _ h share keep x rfl X w0 ρ w a nt r n hok.1 hx
      | false => exact ih.code _ _ _ _ _ _ h share keep y rfl X w0 ρ w a nt r n hok.2 hx
     ·cases h
 | block id b =>
   subst hc
   simp only [compile, sCode] at h
   simp only [cOk] at hok
   cases h1 : arun E N (.code inR (compile E.P share keep b) T H ds) with
   | none => rw [h1] at h; cases h
   | some res1 =>
     rw [h1] at h
     have hb := ih.code _ _ _ _ _ _ h1 share keep b rfl X w0 ρ w a nt r n hok hx
     exact wpIn_block (wpIn_mono hb (block_post h))
 | loop b =>
   simp only [cOk] at hok
   exact wpIn_loop_of (hloop _ hc share keep b rfl X w0 ρ w a nt r n hok hx)
 | scope b =>
   subst hc
   simp only [compile, sCode] at h
   simp only [cOk] at hok
   exact wpIn_scope_of (ih.scope _ _ _ _ _ _ _ h share keep b b rfl rfl X w0 ρ w a nt r n hok hok hx)
 | region id ops d =>
   rw [compile_region] at hc
   simp only [cOk] at hok
   rcases region_kind (P := E.P) (share := share) (keep := keep) (ops := ops) (d := d) with hb | ⟨rfl, al, back, hb⟩ | ⟨rfl, al, back, hb⟩
   ·rw [hc, hb] at h; cases h
   ·rw [hc, hb] at h
    exact region_sound (callOk_of ih) hb h hx.tmps hx.now hx.nt hok hx.defers
   ·rw [hc, hb] at h
    exact hE.draw share keep ops al back _ id nt r n a ds res X w0 ρ H w T (callOk_of ih) hb h hx.tmps hx.now hx.nt hok hx.defers
 | rangeFunc g ps as_ bd =>
   simp only [compile] at hc
   cases hk : keptSrc keep g with
   | none =>
     rw [hk] at hc
     subst hc
     cases h
   | some s =>
     rw [hk] at hc
     subst hc
     simp only [sCode] at h
     exact range_sound hE ih hk h hok hx
theorem all_ok (hE : EnvOk E) : ∀ N, AllOk E N
 | 0 => by
   constructor
   ·intro _ _ _ _ _ _ h; cases h
   ·intro _ _ _ _ _ _ h; cases h
   ·intro _ _ _ _ _ _ _ h; cases h
   ·intro _ _ _ _ h; cases h
   ·intro _ _ _ _ h; cases h
 | N + 1 =>
   have ih := all_ok hE N
   ⟨fun inR c T H ds res h => code_step hE ih inR c T H ds res h fun b hb => by subst hb; exact loop_step ih inR b T H ds res h,
    loop_step ih, scope_step ih, call_step hE ih, round_step ih⟩
theorem acall_sound (hE : EnvOk E) {N : Nat} {f : FuncId} {args : List Value} {H H' : AH V} {v : Value} (h : acall E N f args H = some (v, H')) : CallsOk E.P f args H v H' := by
 unfold acall at h
 split at h
 ·rename_i e T H2 ds v2 hr
  simp only [Option.some.injEq, Prod.mk.injEq] at h
  obtain ⟨rfl, rfl⟩ := h
  exact (all_ok hE N).call _ _ _ _ hr
 ·cases h
end
end Go.Proofs.Ytggaimcopbjdiaa.AM
namespace Go.Proofs.Ytggaimcopbjdiaa.AM
structure CS (V : Type → Type) where
 m : OEnv
 L : List Value
 H : AH V
 G : List (AH V)
 y : Org
 v : Value
section
variable {P : Program} {V : Type → Type} [Vec V] {share : Bool} {ops : Array Oper} {call : Value → List Value → AH V → Option (Value × AH V)} {T : AT}
inductive Goes (ops : Array Oper) (T : AT) (o : Oper) (s : CS V) (b : Bool) : Prop
 | free (hg : o.guard = none) (hb : b = true)
 | ask {j d : Nat} {want : Bool} {src : Src} (hg : o.guard = some (j, want)) (hj : (ops[j]?).bind (·.dst) = some d) (hs : srcIn ops o s.m s.L.length (.tmp d) = some src) (hw : awanted T s.L (some (src, want)) = b)
inductive CStep (P : Program) (share : Bool) (ops : Array Oper) (call : Value → List Value → AH V → Option (Value × AH V)) (T : AT) (o : Oper) (lo : Nat) (s s' : CS V) : Prop
 | other {x : Operand} (hg : o.guard = none) (hc : compileOp P share o = .mov x) (hy : orgIn ops o s.m x = some s'.y) (hv : oval T s.L s'.y = some s'.v) (hm : s'.m = setOrg s.m o.dst s'.y) (hL : s'.L = s.L) (hH : s'.H = s.H) (hG : s'.G = s.G)
 | skip {op' : AOp Src} (hop : (compileOp P share o).mapM (srcIn ops o s.m s.L.length) = some op') (hw : Goes ops T o s false) (hv : s'.v = undef) (hy : s'.y = .val s.L.length) (hm : s'.m = setOrg s.m o.dst s'.y) (hL : s'.L = undef :: s.L) (hH : s'.H = s.H)
   (hG : s'.G = bif isEff op' then s.H :: s.G else s.G)
 | exec {op' : AOp Src} (hop : (compileOp P share o).mapM (srcIn ops o s.m s.L.length) = some op') (hw : Goes ops T o s true) (hx : aexec P call op' (sev T s.L) s.H = some (s'.v, s'.H)) (hy : s'.y = .val s.L.length) (hm : s'.m = setOrg s.m o.dst s'.y) (hL : s'.L = s'.v :: s.L)
   (hl : loadOk T s.L s.G lo op' s'.v = true) (hsz : Vec.size s.H ≤ Vec.size s'.H) (hG : s'.G = bif isEff op' then s'.H :: s.G else s.G)
def Def (m : OEnv) (T L : List Value) : Prop := ∀ t x, m.find t = some x → ∃ v, oval T L x = some v
theorem Def.org {m : OEnv} {L : List Value} {o : Oper} (h : Def m T L) {x : Operand} {y : Org} (hx : orgIn ops o m x = some y) : ∃ v, oval T L y = some v := by
 have hx := orgIn_some hx
 cases x with
 | tmp t => exact h t y hx
 | const c =>
   simp only [orgOf] at hx
   split at hx
   ·injection hx with hx; subst hx; exact ⟨c, rfl⟩
   ·cases hx
 | global g => cases hx
 | func f => injection hx with hx; subst hx; exact ⟨_, rfl⟩
theorem Def.set {m : OEnv} {L L' : List Value} {y : Org} {v : Value} (h : Def m T L) (hL : ∀ x u, oval T L x = some u → oval T L' x = some u) (hy : oval T L' y = some v) (d : Option Nat) : Def (setOrg m d y) T L' := by
 intro t x hx
 rw [find_setOrg] at hx
 split at hx
 ·injection hx with hx; subst hx; exact ⟨v, hy⟩
 ·obtain ⟨u, hu⟩ := h t x hx
  exact ⟨u, hL _ _ hu⟩
def shift (s0 : CS V) (S : Nat → CS V) : Nat → CS V
 | 0 => s0
 | i + 1 => S i
theorem trace : ∀ {ol : List (Oper × Nat)} {m m' : OEnv} {k' : Nat} {al : List AOper} {L L' : List Value} {G : List (AH V)} {H H' : AH V} (y : Org) (v : Value),
  someOps P share ops ol m L.length = some (al, m', k') → adraw P call T al G L H = some (L', H') → Def m T L →
  ∃ S : Nat → CS V, S 0 = ⟨m, L, H, G, y, v⟩ ∧ (∀ i o lo, ol[i]? = some (o, lo) → CStep P share ops call T o lo (S i) (S (i + 1)) ∧ Def (S (i + 1)).m T (S (i + 1)).L ∧ oval T (S (i + 1)).L (S (i + 1)).y = some (S (i + 1)).v) ∧
   (S ol.length).m = m' ∧ (S ol.length).L = L' ∧ (S ol.length).H = H' ∧ k' = L'.length
 | [], m, m', k', al, L, L', G, H, H', y, v, hs, ha, hd => by
   simp only [someOps, Option.some.injEq, Prod.mk.injEq] at hs
   obtain ⟨rfl, rfl, rfl⟩ := hs
   simp only [adraw, Option.some.injEq, Prod.mk.injEq] at ha
   obtain ⟨rfl, rfl⟩ := ha
   exact ⟨fun _ => ⟨m, L, H, G, y, v⟩, rfl, fun i o lo h => by simp at h, rfl, rfl, rfl, rfl⟩
 | (o, lo) :: ol, m, m', k', al, L, L', G, H, H', y, v, hs, ha, hd => by
   -- the rest, behind a step
   have go : ∀ (s1 : CS V) {al1 : List AOper}, CStep P share ops call T o lo ⟨m, L, H, G, y, v⟩ s1 → Def s1.m T s1.L → oval T s1.L s1.y = some s1.v → someOps P share ops ol s1.m s1.L.length = some (al1, m', k') → adraw P call T al1 s1.G s1.L s1.H = some (L', H') →
     ∃ S : Nat → CS V, S 0 = ⟨m, L, H, G, y, v⟩ ∧ (∀ i o' lo', ((o, lo) :: ol)[i]? = some (o', lo') → CStep P share ops call T o' lo' (S i) (S (i + 1)) ∧ Def (S (i + 1)).m T (S (i + 1)).L ∧ oval T (S (i + 1)).L (S (i + 1)).y = some (S (i + 1)).v) ∧
      (S ((o, lo) :: ol).length).m = m' ∧ (S ((o, lo) :: ol).length).L = L' ∧ (S ((o, lo) :: ol).length).H = H' ∧ k' = L'.length := by
    intro s1 al1 hst hd1 hv1 hs1 ha1
    obtain ⟨S, h0, h1, h2⟩ := trace s1.y s1.v hs1 ha1 hd1
    refine ⟨shift ⟨m, L, H, G, y, v⟩ S, rfl, fun i o' lo' hi => ?_, h2⟩
    cases i with
    | zero =>
      simp only [List.getElem?_cons_zero, Option.some.injEq, Prod.mk.injEq] at hi
      obtain ⟨rfl, rfl⟩ := hi
      show CStep P share ops call T o lo ⟨m, L, H, G, y, v⟩ (S 0) ∧ _
      have e0 : S 0 = s1 := h0
      simp only [shift]
      rw [e0]
      exact ⟨hst, hd1, hv1⟩
    | succ i => exact h1 i o' lo' (by simpa using hi)
   simp only [someOps] at hs
   split at hs
   ·rename_i y1 hone
    unfold oneOp at hone
    split at hone
    ·rename_i x hg hc
     cases hy : orgIn ops o m x with
     | none => rw [hy] at hone; cases hone
     | some y' =>
       rw [hy] at hone
       simp only [Option.map_some, Option.some.injEq, Prod.mk.injEq, true_and] at hone
       subst hone
       obtain ⟨u, hu⟩ := hd.org hy
       exact go ⟨setOrg m o.dst y', L, H, G, y', u⟩ (.other hg hc hy hu rfl rfl rfl rfl) (hd.set (fun _ _ h => h) hu _) hu hs ha
    ·split at hone
     ·simp at hone
     ·exfalso; revert hone; cases srcIn ops o m L.length (.tmp _) <;> simp
     ·cases hone
   ·rename_i ao y1 hone
    split at hs
    ·rename_i al' m1 k1 hs'
     simp only [Option.some.injEq, Prod.mk.injEq] at hs
     obtain ⟨rfl, rfl, rfl⟩ := hs
     have key : ∃ op', ao.op = op' ∧ ao.lo = lo ∧ (compileOp P share o).mapM (srcIn ops o m L.length) = some op' ∧ y1 = .val L.length ∧ ∀ b, awanted T L ao.g = b → Goes ops T o (⟨m, L, H, G, y, v⟩ : CS V) b := by
      unfold oneOp at hone
      split at hone
      ·rename_i x hg hc
       revert hone
       cases orgIn ops o m x <;> simp
      ·split at hone
       ·rename_i op' hop hg
        simp only [Option.some.injEq, Prod.mk.injEq] at hone
        obtain ⟨h1, h2⟩ := hone
        subst h1
        exact ⟨op', rfl, rfl, hop, h2.symm, fun b hb => .free (guardOf_none hg) hb.symm⟩
       ·rename_i op' d want hop hg
        cases hsrc : srcIn ops o m L.length (.tmp d) with
        | none => rw [hsrc] at hone; cases hone
        | some s =>
          rw [hsrc] at hone
          simp only [Option.map_some, Option.some.injEq, Prod.mk.injEq] at hone
          obtain ⟨h1, h2⟩ := hone
          subst h1
          obtain ⟨j, hg1, hg2⟩ := guardOf_some hg
          exact ⟨op', rfl, rfl, hop, h2.symm, fun b hb => .ask hg1 hg2 hsrc hb⟩
       ·cases hone
     obtain ⟨op', rfl, rfl, hop, rfl, hwant⟩ := key
     simp only [adraw] at ha
     split at ha
     ·rename_i hw
      split at ha
      ·rename_i u H1 hx
       split at ha
       ·rename_i hl
        have hl2 : loadOk T L G ao.lo ao.op u = true ∧ Vec.size H ≤ Vec.size H1 := by
         cases hq : loadOk T L G ao.lo ao.op u with
         | false => rw [hq] at hl; cases hl
         | true => rw [hq] at hl; exact ⟨rfl, by simpa using hl⟩
        exact go ⟨setOrg m o.dst (.val L.length), u :: L, H1, bif isEff ao.op then H1 :: G else G, .val L.length, u⟩ (.exec hop (hwant true hw) hx rfl rfl rfl hl2.1 hl2.2 rfl) (hd.set (fun _ _ h => oval_cons u h) (oval_last T L u) _) (oval_last T L u) hs' ha
       ·cases ha
      ·cases ha
     ·rename_i hw
      exact go ⟨setOrg m o.dst (.val L.length), undef :: L, H, bif isEff ao.op then H :: G else G, .val L.length, undef⟩ (.skip hop (hwant false hw) rfl rfl rfl rfl rfl rfl) (hd.set (fun _ _ h => oval_cons undef h) (oval_last T L undef) _) (oval_last T L undef) hs' ha
    ·cases hs
   ·cases hs
end
end Go.Proofs.Ytggaimcopbjdiaa.AM
namespace Go.Proofs.Ytggaimcopbjdiaa.AM
def stepA (acc : List (List Nat)) (o : Oper) : List Nat := (o.after.toList.flatMap fun e => if Region.binds .any e then e.on :: acc.getD e.on [] else []).eraseDups
theorem aheadOf_eq (ops : List Oper) : aheadOf ops = ops.foldl (fun acc o => acc ++ [stepA acc o]) [] := rfl
theorem fold_ahead : ∀ (rest pre : List Oper) (acc : List (List Nat)), acc.length = pre.length → (∀ (i : Nat) (o : Oper), pre[i]? = some o → acc[i]? = some (stepA (acc.take i) o)) →
  ∀ (i : Nat) (o : Oper), (pre ++ rest)[i]? = some o → (rest.foldl (fun acc o => acc ++ [stepA acc o]) acc)[i]? = some (stepA ((rest.foldl (fun acc o => acc ++ [stepA acc o]) acc).take i) o)
 | [], pre, acc, hl, h, i, o, hi => by simpa using h i o (by simpa using hi)
 | p :: rest, pre, acc, hl, h, i, o, hi => by
   rw [List.foldl_cons]
   refine fold_ahead rest (pre ++ [p]) (acc ++ [stepA acc p]) (by simp [hl]) (fun j q hj => ?_) i o (by simpa using hi)
   by_cases hjl : j < pre.length
   ·rw [List.getElem?_append_left hjl] at hj
    rw [List.getElem?_append_left (by omega), List.take_append_of_le_length (by omega)]
    exact h j q hj
   ·rw [List.getElem?_append_right (by omega)] at hj
    have hj0 : j = pre.length := by
     have := (List.getElem?_eq_some_iff.1 hj).1
     simp at this
     omega
    subst hj0
    simp at hj
    subst hj
    rw [← hl, List.getElem?_append_right (Nat.le_refl _), List.take_append_of_le_length (Nat.le_refl _), List.take_length]
    simp
theorem ahead_get {ops : List Oper} {i : Nat} {o : Oper} (h : ops[i]? = some o) : (aheadOf ops)[i]? = some (stepA ((aheadOf ops).take i) o) := by
 rw [aheadOf_eq]
 exact fold_ahead ops [] [] rfl (fun i o h => by simp at h) i o (by simpa using h)
theorem mem_stepA {acc : List (List Nat)} {o : Oper} {x : Nat} : x ∈ stepA acc o ↔ ∃ e ∈ o.after.toList, Region.binds .any e = true ∧ (x = e.on ∨ x ∈ acc.getD e.on []) := by
 unfold stepA
 rw [List.mem_eraseDups, List.mem_flatMap]
 constructor
 ·rintro ⟨e, he, hx⟩
  split at hx
  ·rename_i hb
   exact ⟨e, he, hb, List.mem_cons.1 hx⟩
  ·cases hx
 ·rintro ⟨e, he, hb, hx⟩
  exact ⟨e, he, by rw [if_pos hb]; exact List.mem_cons.2 hx⟩
theorem ahead_direct {ops : List Oper} {i : Nat} {o : Oper} (h : ops[i]? = some o) {e : Edge} (he : e ∈ o.after.toList) (hb : Region.binds .any e = true) : e.on ∈ (aheadOf ops).getD i [] := by
 rw [List.getD_eq_getElem?_getD, ahead_get h, Option.getD_some, mem_stepA]
 exact ⟨e, he, hb, .inl rfl⟩
theorem ahead_closed {ops : List Oper} (Ls : Nat → Prop) (hcl : ∀ (j : Nat) (o : Oper), ops[j]? = some o → Ls j → ∀ e ∈ o.after.toList, Region.binds .any e = true → Ls e.on) :
  ∀ (i : Nat) (o : Oper), ops[i]? = some o → (∀ e ∈ o.after.toList, Region.binds .any e = true → Ls e.on) → ∀ x ∈ (aheadOf ops).getD i [], Ls x := by
 intro i
 induction i using Nat.strongRecOn with
 | _ i ih =>
   intro o ho hd x hx
   rw [List.getD_eq_getElem?_getD, ahead_get ho, Option.getD_some, mem_stepA] at hx
   obtain ⟨e, he, hb, rfl | hx⟩ := hx
   ·exact hd e he hb
   ·rw [List.getD_eq_getElem?_getD, List.getElem?_take] at hx
    split at hx
    ·rename_i hlt
     rw [← List.getD_eq_getElem?_getD] at hx
     have hlen : i < ops.length := (List.getElem?_eq_some_iff.1 ho).1
     have ho' : ops[e.on]? = some ops[e.on] := List.getElem?_eq_getElem (by omega)
     exact ih e.on hlt _ ho' (hcl _ _ ho' (hd e he hb)) x hx
    ·simp at hx
structure Plan (ops : Array Oper) (eff : Nat → Prop) (ord : List Nat) : Prop where
 len : ord.length = ops.size
 lt : ∀ i ∈ ord, i < ops.size
 all : ∀ i, i < ops.size → i ∈ ord
 one : ∀ (j k : Nat), ord[k]? = some j → j ∉ ord.take k
 before : ∀ (j k : Nat), ord[k]? = some j → ∀ i ∈ (aheadOf ops.toList).getD j [], i ∈ ord.take k
 free : ∀ (j k : Nat), ord[k]? = some j → ∀ i ∈ ord.take k, i ∈ (aheadOf ops.toList).getD j [] ∨ ∃ oi oj, ops[i]? = some oi ∧ ops[j]? = some oj ∧ oi.apart ops oj = true ∧ ¬ eff j
theorem plan_of {ops : Array Oper} {effs ord : List Nat} (h : drawOk ops.toList (aheadOf ops.toList) effs ord = true) : Plan ops (· ∈ effs) ord := by
 unfold drawOk at h
 simp only [Bool.and_eq_true, beq_iff_eq, List.all_eq_true, Nat.blt_eq, List.contains_iff_mem, List.mem_range, Array.length_toList] at h
 obtain ⟨⟨⟨h1, h2⟩, h3⟩, h4⟩ := h
 have hz : ∀ (j k : Nat), ord[k]? = some j → (j, k) ∈ ord.zipIdx := fun j k hk => by
  rw [List.mem_iff_getElem?]
  exact ⟨k, by simp [hk]⟩
 refine ⟨h1, h2, h3, fun j k hk => ?_, fun j k hk i hi => ?_, fun j k hk i hi => ?_⟩
 ·have := (h4 _ (hz j k hk)).1.2
  simpa using this
 ·exact (h4 _ (hz j k hk)).1.1 i hi
 ·have := (h4 _ (hz j k hk)).2 i hi
  simp only [Bool.or_eq_true, List.contains_iff_mem] at this
  rcases this with h5 | h5
  ·exact .inl h5
  ·right
   split at h5
   ·rename_i oi oj hi' hj'
    simp only [Bool.and_eq_true, Bool.not_eq_true', List.contains_eq_mem, decide_eq_false_iff_not] at h5
    rw [Array.getElem?_toList] at hi' hj'
    exact ⟨oi, oj, hi', hj', h5.1, h5.2⟩
   ·cases h5
theorem filterMap_get {α : Type} {f : Nat → Option α} : ∀ {ord : List Nat}, (∀ i ∈ ord, (f i).isSome = true) → ∀ k : Nat, (ord.filterMap f)[k]? = (ord[k]?).bind f
 | [], _, k => by simp
 | i :: ord, h, k => by
   obtain ⟨x, hx⟩ := Option.isSome_iff_exists.1 (h i (by simp))
   rw [List.filterMap_cons_some hx]
   cases k with
   | zero => simp [hx]
   | succ k => simpa using filterMap_get (fun j hj => h j (by simp [hj])) k
theorem Plan.pos {ops : Array Oper} {eff : Nat → Prop} {ord : List Nat} (p : Plan ops eff ord) {i : Nat} (hi : i < ops.size) : ∃ k : Nat, ord[k]? = some i := List.mem_iff_getElem?.1 (p.all i hi)
theorem mem_take {ord : List Nat} {i k : Nat} (h : i ∈ ord.take k) : ∃ j : Nat, j < k ∧ ord[j]? = some i := by
 obtain ⟨j, hj⟩ := List.mem_iff_getElem?.1 h
 have hlt : j < (ord.take k).length := (List.getElem?_eq_some_iff.1 hj).1
 rw [List.length_take] at hlt
 exact ⟨j, by omega, by rw [List.getElem?_take, if_pos (by omega)] at hj; exact hj⟩
theorem take_mem {ord : List Nat} {i j k : Nat} (h : ord[j]? = some i) (hj : j < k) : i ∈ ord.take k := List.mem_iff_getElem?.2 ⟨j, by rw [List.getElem?_take, if_pos hj]; exact h⟩
theorem Plan.inj {ops : Array Oper} {eff : Nat → Prop} {ord : List Nat} (p : Plan ops eff ord) {i j k : Nat} (hj : ord[j]? = some i) (hk : ord[k]? = some i) : j = k := by
 rcases Nat.lt_trichotomy j k with h | h | h
 ·exact absurd (take_mem hj h) (p.one i k hk)
 ·exact h
 ·exact absurd (take_mem hk h) (p.one i j hj)
end Go.Proofs.Ytggaimcopbjdiaa.AM
namespace Go.Proofs.Ytggaimcopbjdiaa.AM
def Rho.cut (ρ : Rho) (n : Nat) : Rho := ⟨fun b => if b < n then ρ b else none, ρ.lim⟩
theorem cut_some {ρ : Rho} {n b : Nat} {p : Nat × Nat} : ρ.cut n b = some p ↔ b < n ∧ ρ b = some p := by
 show (if b < n then ρ b else none) = some p ↔ _
 by_cases h : b < n
 ·rw [if_pos h]; exact ⟨fun x => ⟨h, x⟩, fun x => x.2⟩
 ·rw [if_neg h]; exact ⟨(fun x => by cases x), fun x => absurd x.1 h⟩
theorem cut_le {ρ : Rho} {n n' : Nat} (h : n ≤ n') : (ρ.cut n).le (ρ.cut n') := fun b p hb => by
 rw [cut_some] at hb
 exact ⟨cut_some.2 ⟨by omega, hb.2⟩, rfl⟩
theorem cut_mono {ρ ρ' : Rho} (h : ρ.le ρ') (n : Nat) : (ρ.cut n).le (ρ'.cut n) := fun b p hb => by
 rw [cut_some] at hb
 exact ⟨cut_some.2 ⟨hb.1, (h _ _ hb.2).1⟩, (h _ _ hb.2).2⟩
theorem le_cut {ρ ρ' : Rho} {n : Nat} (h : ρ.le ρ') (hd : ∀ b p, ρ b = some p → b < n) : ρ.le (ρ'.cut n) := fun b p hb => ⟨cut_some.2 ⟨hd b p hb, (h _ _ hb).1⟩, (h _ _ hb).2⟩
section
variable {P : Program} {X X' : Nat → Option Obj} {w0 w : World} {ρ ρ' : Rho} {V : Type → Type} [Vec V] {H : AH V} {h : Nat → Blk}
theorem BRel.less (hX : ∀ cb, X cb = none → X' cb = none) {p : Nat × Nat} {B : Blk} (hb : BRel P X ρ w p B) : BRel P X' ρ w p B := by
 cases B with
 | dead => trivial
 | arr cs wr lo => obtain ⟨c, e, fr, h1, h2, h3, h4⟩ := hb; exact ⟨c, e, fr, h1, h2, h3, fun hw => ⟨hX _ (h4 hw).1, (h4 hw).2⟩⟩
 | loop T ps a b st pe => exact ⟨hX _ hb.1, hb.2⟩
 | defr => exact ⟨hX _ hb.1, hb.2⟩
theorem BRel.less' {p : Nat × Nat} (hX : X p.1 = none → X' p.1 = none) {B : Blk} (hb : BRel P X ρ w p B) : BRel P X' ρ w p B := by
 cases B with
 | dead => trivial
 | arr cs wr lo => obtain ⟨c, e, fr, h1, h2, h3, h4⟩ := hb; exact ⟨c, e, fr, h1, h2, h3, fun hw => ⟨hX (h4 hw).1, (h4 hw).2⟩⟩
 | loop T ps a b st pe => exact ⟨hX hb.1, hb.2⟩
 | defr => exact ⟨hX hb.1, hb.2⟩
theorem Now.rho (s : Now P X w0 ρ H w) (h1 : ρ.le ρ') (h2 : ∀ b p, ρ' b = some p → ρ b = some p) : Now P X w0 ρ' H w :=
 ⟨⟨s.st.os, s.st.tape, s.st.output, s.st.size, s.st.frame, fun b p hb => s.st.dom b p (h2 b p hb), fun b p hb => (s.st.blk b p (h2 b p hb)).mono h1, fun b b' p p' hne hb hb' hq => s.st.sep b b' p p' hne (h2 _ _ hb) (h2 _ _ hb') hq,
   fun b p cs lo hb hl => by
    obtain ⟨sz, c, e, fr, g1, g2⟩ := s.st.lim b p cs lo (h2 _ _ hb) hl
    exact ⟨sz, c, e, fr, by rw [(h1 _ _ (h2 _ _ hb)).2]; exact g1, g2⟩⟩, fun b p hb => s.dom b p (h2 b p hb)⟩
theorem Now.less (s : Now P X w0 ρ H w) (hX : ∀ cb o, X' cb = some o → X cb = some o) : Now P X' w0 ρ H w :=
 ⟨⟨s.st.os, s.st.tape, s.st.output, s.st.size, fun cb o ho => s.st.frame cb o (hX cb o ho), s.st.dom, fun b p hb => (s.st.blk b p hb).less (fun cb hc => by
   cases hq : X' cb with
   | none => rfl
   | some o => rw [hX cb o hq] at hc; cases hc), s.st.sep, s.st.lim⟩, s.dom⟩
theorem Now.drawn (s : Now P X w0 ρ H w) (n : Nat) : Now P X w0 ρ H { w with drawn := n } := ⟨s.st.drawn n, s.dom⟩
def putX (X : Nat → Option Obj) (b : Nat) (o : Option Obj) : Nat → Option Obj := fun i => if i = b then o else X i
theorem putX_same (b : Nat) (o : Option Obj) : putX X b o b = o := by simp [putX]
theorem putX_ne {b i : Nat} (o : Option Obj) (e : i ≠ b) : putX X b o i = X i := by simp [putX, e]
theorem Now.beside (s : Now P X w0 ρ H w) (o : Obj) : Now P (putX X w.heap.size (some o)) w0 ρ H (w.alloc o) := by
 have hold : ∀ k, k < w.heap.size → (w.alloc o).heap[k]? = w.heap[k]? := fun k hk => by
  show (w.heap.push o)[k]? = _
  rw [Array.getElem?_push, if_neg (by omega)]
 refine ⟨⟨s.st.os, s.st.tape, s.st.output, ?_, fun cb x hx => ?_, fun b p hb => ?_, fun b p hb => ?_, s.st.sep, fun b p cs lo hb hl => ?_⟩, s.dom⟩
 ·show _ ≤ (w.heap.push o).size
  have := s.st.size
  simp; omega
 ·by_cases e : cb = w.heap.size
  ·subst e
   rw [putX_same] at hx
   injection hx with hx
   subst hx
   show (w.heap.push _)[w.heap.size]? = _
   simp
  ·rw [putX_ne _ e] at hx
   have h1 := s.st.frame cb x hx
   rw [hold cb (Array.getElem?_eq_some_iff.1 h1).1]
   exact h1
 ·show _ < (w.heap.push o).size
  have := s.st.dom b p hb
  simp; omega
 ·have hd := s.st.dom b p hb
  refine BRel.heap p (BRel.less' ?_ (s.st.blk b p hb)) (hold _ hd)
  intro hc
  rw [putX_ne _ (by omega)]
  exact hc
 ·obtain ⟨sz, c, e, fr, g1, g2, g3⟩ := s.st.lim b p cs lo hb hl
  exact ⟨sz, c, e, fr, g1, by rw [hold _ (s.st.dom b p hb)]; exact g2, g3⟩
theorem Now.letIn {cs : List Value} {cb : Nat} {c : Array Value} {e : TypeId} (s : Now P X w0 (ρ.cut (Vec.size H)) H w) (hp : ρ (Vec.size H) = some (cb, 0)) (hl : ρ.lim (Vec.size H) = some (cs.length, c.size)) (hx : X cb = some (.cells c e (0, 0)))
  (hsep : ∀ b p, b < Vec.size H → ρ b = some p → p.1 ≠ cb) (hle : cs.length ≤ c.size) (hr : VRels (ρ.cut (Vec.size H)) cs (c.toList.take cs.length)) :
  Now P (putX X cb none) w0 (ρ.cut (Vec.size H + 1)) (anew H cs) w := by
 have hheap := s.st.frame cb _ hx
 have hlt : cb < w.heap.size := (Array.getElem?_eq_some_iff.1 hheap).1
 have hcut : (ρ.cut (Vec.size H)).le (ρ.cut (Vec.size H + 1)) := cut_le (by omega)
 have hold : ∀ b p, (ρ.cut (Vec.size H + 1)) b = some p → b ≠ Vec.size H → (ρ.cut (Vec.size H)) b = some p := fun b p hb hne => by
  rw [cut_some] at hb ⊢
  exact ⟨by omega, hb.2⟩
 refine ⟨⟨s.st.os, s.st.tape, s.st.output, s.st.size, fun k o hk => ?_, fun b p hb => ?_, fun b p hb => ?_, fun b b' p p' hne hb hb' hq => ?_, fun b p cs' lo hb hv => ?_⟩, fun b p hb => ?_⟩
 ·by_cases ek : k = cb
  ·subst ek; rw [putX_same] at hk; cases hk
  ·rw [putX_ne _ ek] at hk; exact s.st.frame k o hk
 ·by_cases eb : b = Vec.size H
  ·subst eb
   rw [cut_some, hp] at hb
   cases hb.2
   exact hlt
  ·exact s.st.dom b p (hold b p hb eb)
 ·rw [anew_eq, view_push]
  by_cases eb : b = Vec.size H
  ·subst eb
   rw [setB_same]
   rw [cut_some, hp] at hb
   cases hb.2
   refine ⟨c, e, (0, 0), hheap, by simpa using hle, fun i v hv => ?_, fun _ => ⟨putX_same _ _, fun o ho => by omega⟩⟩
   obtain ⟨v', a, r⟩ := hr.get hv
   have hi : i < cs.length := (List.getElem?_eq_some_iff.1 hv).1
   rw [List.getElem?_take, if_pos hi, Array.getElem?_toList] at a
   exact ⟨v', by simpa using a, r.mono hcut⟩
  ·rw [setB_ne _ _ eb]
   refine BRel.less' (fun hc => ?_) ((s.st.blk b p (hold b p hb eb)).mono hcut)
   by_cases ep : p.1 = cb
   ·rw [ep]; exact putX_same _ _
   ·rw [putX_ne _ ep]; exact hc
 ·rw [anew_eq, view_push]
  by_cases eb : b = Vec.size H
  ·subst eb
   have h1 := (cut_some.1 hb).2
   rw [hp] at h1
   cases h1
   have h2 := cut_some.1 hb'
   exact absurd hq.symm (hsep b' p' (by omega) h2.2)
  ·by_cases eb' : b' = Vec.size H
   ·subst eb'
    have h1 := (cut_some.1 hb').2
    rw [hp] at h1
    cases h1
    have h2 := cut_some.1 hb
    exact absurd hq (hsep b p (by omega) h2.2)
   ·rw [setB_ne _ _ eb, setB_ne _ _ eb']
    exact s.st.sep b b' p p' hne (hold b p hb eb) (hold b' p' hb' eb') hq
 ·rw [anew_eq, view_push] at hv
  by_cases eb : b = Vec.size H
  ·subst eb
   rw [setB_same] at hv
   cases hv
   have h1 := (cut_some.1 hb).2
   rw [hp] at h1
   cases h1
   exact ⟨c.size, c, e, (0, 0), hl, hheap, Nat.le_refl _⟩
  ·rw [setB_ne _ _ eb] at hv
   exact s.st.lim b p cs' lo (hold b p hb eb) hv
 ·rw [anew_eq, Vec.size_push]
  exact (cut_some.1 hb).1
end
theorem bytes_beq {a b : ByteArray} (h : (a == b) = true) : a = b := by
 cases a; cases b
 rename_i a b
 have : (a == b) = true := h
 rw [eq_of_beq this]
theorem veq1_eq {u v : Value} (h : veq1 u v = true) : u = v := by
 unfold veq1 at h
 split at h
 ·simp only [beq_iff_eq] at h; rw [h]
 ·simp only [Bool.and_eq_true, beq_iff_eq] at h; rw [h.1, h.2]
 ·rw [bytes_beq h]
 ·simp only [beq_iff_eq] at h; rw [h]
 ·simp only [Bool.and_eq_true, beq_iff_eq] at h; rw [h.1.1, h.1.2, h.2]
 ·rfl
 ·rfl
 ·simp only [Bool.and_eq_true, beq_iff_eq, List.isEmpty_iff] at h
  obtain ⟨⟨⟨⟨h1, h2⟩, h3⟩, h4⟩, h5⟩ := h
  rw [h1, Array.ext' (h2.trans h3.symm), Array.ext' (h4.trans h5.symm)]
 ·cases h
theorem veqs_eq : ∀ {l l' : List Value}, veqs l l' = true → l = l'
 | [], [], _ => rfl
 | a :: r, b :: s, h => by
   simp only [veqs, Bool.and_eq_true] at h
   rw [veq1_eq h.1, veqs_eq h.2]
 | [], _ :: _, h => by cases h
 | _ :: _, [], h => by cases h
theorem veq_eq {u v : Value} (h : veq u v = true) : u = v := by
 unfold veq at h
 split at h
 ·exact congrArg Value.agg (Array.ext' (veqs_eq h))
 ·simp only [Bool.and_eq_true, beq_iff_eq] at h
  obtain ⟨⟨h1, h2⟩, h3⟩ := h
  rw [h1, Array.ext' (veqs_eq h2), Array.ext' (veqs_eq h3)]
 ·exact veq1_eq h
end Go.Proofs.Ytggaimcopbjdiaa.AM
namespace Go.Proofs.Ytggaimcopbjdiaa.AM
section
variable {P : Program} {V : Type → Type} [Vec V] {share : Bool} {ops : Array Oper} {call : Value → List Value → AH V → Option (Value × AH V)} {T : AT} {keep ord effs : List Nat} {S : Nat → CS V}
theorem mapM_isEff {α β : Type} {f : α → Option β} {op : AOp α} {op' : AOp β} (h : op.mapM f = some op') : isEff op' = isEff op := by
 cases op <;> simp only [AOp.mapM] at h <;>
  (first
   | (cases h; rfl)
   | (obtain ⟨y, h1, rfl⟩ := m1_some h; rfl)
   | (obtain ⟨y, z, h1, h2, rfl⟩ := m2_some h; rfl)
   | (obtain ⟨y, z, u, h1, h2, h3, rfl⟩ := m3_some h; rfl)
   | (split at h <;> (first | (cases h; done) | (injection h with h; subst h; rfl))))
theorem aexec_calm {χ : Type} {op : AOp χ} {ev : χ → Option Value} {H H' : AH V} {v : Value} (he : isEff op = false) (hx : aexec P call op ev H = some (v, H')) : H' = H ∨ ∃ cs, H' = anew H cs := by
 cases op <;> (try (cases he; done)) <;> simp only [aexec] at hx <;> (first | (exact .inl (withH_some hx).2) | skip)
 case alloc cs =>
  simp only [newPtr, Option.some.injEq, Prod.mk.injEq] at hx
  exact .inr ⟨_, hx.2.symm⟩
 case box x =>
  obtain ⟨a, _, hf⟩ := x1_some hx
  unfold fBox at hf
  split at hf
  ·simp only [newPtr, Option.some.injEq, Prod.mk.injEq] at hf
   exact .inr ⟨_, hf.2.symm⟩
  ·cases hf
 case mkarr n cs ps =>
  unfold xMkarr at hx
  split at hx
  ·split at hx
   ·split at hx
    ·simp only [Option.some.injEq, Prod.mk.injEq] at hx
     exact .inr ⟨_, hx.2.symm⟩
    ·cases hx
   ·cases hx
  ·cases hx
 case mkslice z b l c =>
  obtain ⟨a, b, _, _, hf⟩ := x2_some hx
  unfold amkslice at hf
  split at hf
  ·split at hf
   ·simp only [Option.some.injEq, Prod.mk.injEq] at hf
    exact .inr ⟨_, hf.2.symm⟩
   ·cases hf
  ·cases hf
structure Canon (P : Program) (share : Bool) (ops : Array Oper) (call : Value → List Value → AH V → Option (Value × AH V)) (T : AT) (keep ord effs : List Nat) (S : Nat → CS V) : Prop where
 plan : Plan ops (· ∈ effs) ord
 step : ∀ (k i : Nat) (o : Oper), ord[k]? = some i → ops[i]? = some o →
  CStep P share ops call T o ((ord.filter fun e => effs.contains e && ((aheadOf ops.toList).getD i []).contains e).length) (S k) (S (k + 1)) ∧ Def (S (k + 1)).m T (S (k + 1)).L ∧ oval T (S (k + 1)).L (S (k + 1)).y = some (S (k + 1)).v
 m0 : (S 0).m = entry keep
 L0 : (S 0).L = []
 G0 : (S 0).G = [(S 0).H]
 eff : ∀ (i : Nat) (o : Oper), ops[i]? = some o → (i ∈ effs ↔ isEff (compileOp P share o) = true)
theorem Canon.at (C : Canon P share ops call T keep ord effs S) {k : Nat} (h : k < ord.length) : ∃ i o, ord[k]? = some i ∧ ops[i]? = some o := by
 have h1 : ord[k]? = some ord[k] := List.getElem?_eq_getElem h
 have h2 := C.plan.lt _ (List.mem_iff_getElem?.2 ⟨k, h1⟩)
 exact ⟨_, _, h1, Array.getElem?_eq_getElem h2⟩
theorem Canon.size1 (C : Canon P share ops call T keep ord effs S) {k : Nat} (h : k < ord.length) : Vec.size (S k).H ≤ Vec.size (S (k + 1)).H := by
 obtain ⟨i, o, h1, h2⟩ := C.at h
 cases (C.step k i o h1 h2).1 with
 | other _ _ _ _ _ _ hH _ => rw [hH]; exact Nat.le_refl _
 | skip _ _ _ _ _ _ hH _ => rw [hH]; exact Nat.le_refl _
 | exec _ _ _ _ _ _ _ hsz _ => exact hsz
theorem Canon.size (C : Canon P share ops call T keep ord effs S) {k : Nat} : ∀ {k' : Nat}, k ≤ k' → k' ≤ ord.length → Vec.size (S k).H ≤ Vec.size (S k').H
 | 0, h, _ => by rw [show k = 0 by omega]; exact Nat.le_refl _
 | k' + 1, h, hl => by
   by_cases e : k = k' + 1
   ·rw [e]; exact Nat.le_refl _
   ·exact Nat.le_trans (Canon.size C (by omega) (by omega)) (C.size1 (by omega))
theorem Canon.calm (C : Canon P share ops call T keep ord effs S) {k i : Nat} (h : ord[k]? = some i) (he : i ∉ effs) : ((S (k + 1)).H = (S k).H ∨ ∃ cs, (S (k + 1)).H = anew (S k).H cs) ∧ (S (k + 1)).G = (S k).G := by
 have hlt : k < ord.length := (List.getElem?_eq_some_iff.1 h).1
 obtain ⟨i', o, h1, h2⟩ := C.at hlt
 rw [h] at h1
 cases h1
 have hne : isEff (compileOp P share o) = false := by
  rw [← Bool.not_eq_true]
  exact fun hh => he ((C.eff i o h2).2 hh)
 cases (C.step k i o h h2).1 with
 | other _ _ _ _ _ _ hH hG => exact ⟨.inl hH, hG⟩
 | skip hop _ _ _ _ _ hH hG => exact ⟨.inl hH, by rw [hG, mapM_isEff hop, hne]; rfl⟩
 | exec hop _ hx _ _ _ _ _ hG => exact ⟨aexec_calm (by rw [mapM_isEff hop]; exact hne) hx, by rw [hG, mapM_isEff hop, hne]; rfl⟩
theorem Canon.act (C : Canon P share ops call T keep ord effs S) {k i : Nat} (h : ord[k]? = some i) (he : i ∈ effs) : (S (k + 1)).G = (S (k + 1)).H :: (S k).G := by
 have hlt : k < ord.length := (List.getElem?_eq_some_iff.1 h).1
 obtain ⟨i', o, h1, h2⟩ := C.at hlt
 rw [h] at h1
 cases h1
 have hne : isEff (compileOp P share o) = true := (C.eff i o h2).1 he
 cases (C.step k i o h h2).1 with
 | other hg hc _ _ _ _ hH hG => rw [hc] at hne; cases hne
 | skip hop _ _ _ _ _ hH hG => rw [hG, mapM_isEff hop, hne, hH]; rfl
 | exec hop _ hx _ _ _ _ _ hG => rw [hG, mapM_isEff hop, hne]; rfl
def Ext (A B : AH V) : Prop := ∀ b x, Vec.get A b = some x → Vec.get B b = some x
theorem ext_anew {A B : AH V} (h : Ext A B) (cs : List Value) : Ext A (anew B cs) := fun b x hb => by
 have h1 := h b x hb
 have := Vec.get_lt B b x h1
 rw [anew_eq, Vec.get_push, if_neg (by omega)]
 exact h1
theorem Canon.head (C : Canon P share ops call T keep ord effs S) : ∀ {k : Nat}, k ≤ ord.length → ∃ g r, (S k).G = g :: r ∧ Ext g (S k).H
 | 0, _ => ⟨_, [], C.G0, fun _ _ h => h⟩
 | k + 1, hl => by
   obtain ⟨g, r, h1, h2⟩ := Canon.head C (k := k) (by omega)
   obtain ⟨i, o, q1, q2⟩ := C.at (k := k) (by omega)
   by_cases he : i ∈ effs
   ·exact ⟨_, _, C.act q1 he, fun _ _ h => h⟩
   ·obtain ⟨h3, h4⟩ := C.calm q1 he
    refine ⟨g, r, by rw [h4, h1], ?_⟩
    rcases h3 with h3 | ⟨cs, h3⟩
    ·rw [h3]; exact h2
    ·rw [h3]; exact ext_anew h2 cs
theorem Canon.glen (C : Canon P share ops call T keep ord effs S) : ∀ {k : Nat}, k ≤ ord.length → (S k).G.length = 1 + ((ord.take k).filter fun e => effs.contains e).length
 | 0, _ => by rw [C.G0]; simp
 | k + 1, hl => by
   have ih := Canon.glen C (k := k) (by omega)
   obtain ⟨i, o, q1, q2⟩ := C.at (k := k) (by omega)
   have ht : ord.take (k + 1) = ord.take k ++ [i] := by rw [List.take_add_one, q1]; rfl
   rw [ht, List.filter_append, List.length_append]
   by_cases he : i ∈ effs
   ·rw [C.act q1 he, List.length_cons, ih]
    have : effs.contains i = true := by simpa using he
    simp only [List.filter_cons, this, if_true, List.filter_nil, List.length_cons, List.length_nil]
    omega
   ·rw [(C.calm q1 he).2, ih]
    have : effs.contains i = false := by simpa using he
    simp only [List.filter_cons, this, Bool.false_eq_true, if_false, List.filter_nil, List.length_nil, Nat.add_zero]
theorem Canon.between (C : Canon P share ops call T keep ord effs S) {f : Nat} : ∀ {k : Nat}, f ≤ k → k ≤ ord.length → ∃ pre, (S k).G = pre ++ (S f).G ∧ (pre = [] →
  (∀ b, b < Vec.size (S f).H → Vec.get (S k).H b = Vec.get (S f).H b) ∧
  (∀ b, Vec.size (S f).H ≤ b → b < Vec.size (S k).H → ∃ k1 cs, f ≤ k1 ∧ k1 < k ∧ b = Vec.size (S k1).H ∧ (S (k1 + 1)).H = anew (S k1).H cs ∧ Vec.get (S k).H b = some (.arr cs true 0)))
 | 0, h, _ => by
   rw [show f = 0 by omega]
   exact ⟨[], rfl, fun _ => ⟨fun _ _ => rfl, fun b h1 h2 => by omega⟩⟩
 | k + 1, h, hl => by
   by_cases e : f = k + 1
   ·rw [e]
    exact ⟨[], rfl, fun _ => ⟨fun _ _ => rfl, fun b h1 h2 => by omega⟩⟩
   ·obtain ⟨pre, h1, h2⟩ := Canon.between C (f := f) (k := k) (by omega) (by omega)
    obtain ⟨i, o, q1, q2⟩ := C.at (k := k) (by omega)
    by_cases he : i ∈ effs
    ·refine ⟨(S (k + 1)).H :: pre, by rw [C.act q1 he, h1]; rfl, fun hq => by cases hq⟩
    ·obtain ⟨h3, h4⟩ := C.calm q1 he
     refine ⟨pre, by rw [h4, h1], fun hq => ?_⟩
     obtain ⟨g1, g2⟩ := h2 hq
     have hsz := C.size (k := f) (k' := k) (by omega) (by omega)
     rcases h3 with h3 | ⟨cs, h3⟩
     ·rw [h3]
      exact ⟨g1, fun b b1 b2 => let ⟨k1, cs, x1, x2, x3⟩ := g2 b b1 b2; ⟨k1, cs, x1, by omega, x3⟩⟩
     ·refine ⟨fun b hb => ?_, fun b b1 b2 => ?_⟩
      ·rw [h3, anew_eq, Vec.get_push, if_neg (by omega)]
       exact g1 b hb
      ·rw [h3, anew_eq, Vec.size_push] at b2
       by_cases eb : b = Vec.size (S k).H
       ·exact ⟨k, cs, by omega, by omega, eb, h3, by rw [h3, anew_eq, Vec.get_push, if_pos eb]⟩
       ·obtain ⟨k1, cs', x1, x2, x3, x4, x5⟩ := g2 b b1 (by omega)
        exact ⟨k1, cs', x1, by omega, x3, x4, by rw [h3, anew_eq, Vec.get_push, if_neg eb]; exact x5⟩
def dstAt (ops : Array Oper) (ord : List Nat) (k : Nat) : Option Nat := ((ord[k]?).bind (ops[·]?)).bind (·.dst)
theorem dstAt_eq {k i : Nat} {o : Oper} (h1 : ord[k]? = some i) (h2 : ops[i]? = some o) : dstAt ops ord k = o.dst := by simp [dstAt, h1, h2]
theorem Canon.next (C : Canon P share ops call T keep ord effs S) {k i : Nat} {o : Oper} (h1 : ord[k]? = some i) (h2 : ops[i]? = some o) : (S (k + 1)).m = setOrg (S k).m o.dst (S (k + 1)).y ∧ ∀ x u, oval T (S k).L x = some u → oval T (S (k + 1)).L x = some u := by
 cases (C.step k i o h1 h2).1 with
 | other _ _ _ _ hm hL _ _ => exact ⟨hm, fun x u h => by rw [hL]; exact h⟩
 | skip _ _ _ _ hm hL _ _ => exact ⟨hm, fun x u h => by rw [hL]; exact oval_cons _ h⟩
 | exec _ _ _ _ hm hL _ _ _ => exact ⟨hm, fun x u h => by rw [hL]; exact oval_cons _ h⟩
theorem Canon.env (C : Canon P share ops call T keep ord effs S) : ∀ {k : Nat}, k ≤ ord.length → ∀ t x, (S k).m.find t = some x →
  (∃ k', k' < k ∧ dstAt ops ord k' = some t ∧ (∀ k'', k' < k'' → k'' < k → dstAt ops ord k'' ≠ some t) ∧ oval T (S k).L x = some (S (k' + 1)).v) ∨
  ((∀ k', k' < k → dstAt ops ord k' ≠ some t) ∧ ∃ i, keep.idxOf? t = some i ∧ x = .tmp i)
 | 0, _, t, x, h => by
   rw [C.m0, find_entry] at h
   cases hi : keep.idxOf? t with
   | none => rw [hi] at h; cases h
   | some i =>
     rw [hi] at h
     injection h with h
     exact .inr ⟨fun k' hk => by omega, i, rfl, h.symm⟩
 | k + 1, hl, t, x, h => by
   obtain ⟨i, o, q1, q2⟩ := C.at (k := k) (by omega)
   obtain ⟨hm, hL⟩ := C.next q1 q2
   have hd := dstAt_eq (ops := ops) q1 q2
   rw [hm, find_setOrg] at h
   split at h
   ·rename_i hdst
    injection h with h
    subst h
    exact .inl ⟨k, by omega, by rw [hd]; exact hdst, fun k'' a b => by omega, (C.step k i o q1 q2).2.2⟩
   ·rename_i hdst
    rcases Canon.env C (k := k) (by omega) t x h with ⟨k', h1, h2, h3, h4⟩ | ⟨h1, h2⟩
    ·refine .inl ⟨k', by omega, h2, fun k'' a b => ?_, hL _ _ h4⟩
     by_cases e : k'' = k
     ·subst e; rw [hd]; exact hdst
     ·exact h3 k'' a (by omega)
    ·refine .inr ⟨fun k' a => ?_, h2⟩
     by_cases e : k' = k
     ·subst e; rw [hd]; exact hdst
     ·exact h1 k' (by omega)
end
end Go.Proofs.Ytggaimcopbjdiaa.AM
namespace Go.Proofs.Ytggaimcopbjdiaa.AM
section
variable {P : Program} {X : Nat → Option Obj} {w0 wi : World} {V : Type → Type} [Vec V] {share : Bool} {ops : Array Oper} {call : Value → List Value → AH V → Option (Value × AH V)} {T : AT} {keep ord effs : List Nat} {S : Nat → CS V}
 {ρ0 ρ ρ' : Rho} {Ls : Nat → Prop} {f sz0 : Nat} {XD : Nat → Option Obj} {a : Act} {w : World} {ds0 : List Deferred}
def Done (ord : List Nat) (Ls : Nat → Prop) (k : Nat) : Prop := ∃ i, ord[k]? = some i ∧ Ls i
def Closed (ops : Array Oper) (Ls : Nat → Prop) : Prop := ∀ (j : Nat) (o : Oper), ops[j]? = some o → Ls j → ∀ e ∈ o.after.toList, Region.binds .any e = true → Ls e.on
theorem dep_of (i : Nat) (o : Oper) (hcl : Closed ops Ls) (ho : ops[i]? = some o) (hd : ∀ e ∈ o.after.toList, Region.binds .any e = true → Ls e.on) : ∀ x ∈ (aheadOf ops.toList).getD i [], Ls x :=
 ahead_closed Ls (fun j o' hj h => hcl j o' (by rw [← Array.getElem?_toList]; exact hj) h) i o (by rw [Array.getElem?_toList]; exact ho) hd
theorem clash {k k1 i i1 : Nat} {o o1 : Oper} (C : Canon P share ops call T keep ord effs S) (hcl : Closed ops Ls) (hk : ord[k]? = some i) (hk1 : ord[k1]? = some i1) (ho : ops[i]? = some o) (ho1 : ops[i1]? = some o1) (hlt : k < k1) (hd : Ls i1)
  (hna : o.apart ops o1 = false) : Ls i := by
 rcases C.plan.free i1 k1 hk1 i (take_mem hk hlt) with h | ⟨oi, oj, h1, h2, h3, _⟩
 ·exact dep_of i1 o1 hcl ho1 (hcl i1 o1 ho1 hd) i h
 ·rw [ho] at h1; rw [ho1] at h2
  cases h1; cases h2
  rw [h3] at hna; cases hna
theorem eff_first {k i : Nat} {o : Oper} (C : Canon P share ops call T keep ord effs S) (hk : ord[k]? = some i) (he : i ∈ effs) (hd : ∀ x ∈ (aheadOf ops.toList).getD i [], Ls x) : ∀ k', k' < k → Done ord Ls k' := by
 intro k' hlt
 have hl : k < ord.length := (List.getElem?_eq_some_iff.1 hk).1
 have h1 : ord[k']? = some ord[k'] := List.getElem?_eq_getElem (by omega)
 rcases C.plan.free i k hk _ (take_mem h1 hlt) with h | ⟨_, _, _, _, _, h4⟩
 ·exact ⟨_, h1, hd _ h⟩
 ·exact absurd he h4
structure Inv0 (P : Program) (X : Nat → Option Obj) (w0 wi : World) (ops : Array Oper) (T : AT) (keep ord effs : List Nat) (S : Nat → CS V) (ρ0 : Rho) (sz0 : Nat) (ds0 : List Deferred) (Ls : Nat → Prop) (f : Nat) (ρ : Rho) (XD : Nat → Option Obj) (a : Act) (w : World) : Prop where
 fle : f ≤ ord.length
 front : ∀ k, k < f → Done ord Ls k
 closed : Closed ops Ls
 now : Now P XD w0 (ρ.cut (Vec.size (S f).H)) (S f).H w
 xd : ∀ cb o, X cb = some o → XD cb = some o
 calm : ∀ k, f ≤ k → Done ord Ls k → (S (k + 1)).H = (S k).H ∨ ∃ cs, (S (k + 1)).H = anew (S k).H cs
 extra : ∀ k cs, f ≤ k → Done ord Ls k → (S (k + 1)).H = anew (S k).H cs → ∃ cb c e, ρ (Vec.size (S k).H) = some (cb, 0) ∧ ρ.lim (Vec.size (S k).H) = some (cs.length, c.size) ∧ XD cb = some (.cells c e (0, 0)) ∧ X cb = none ∧ cs.length ≤ c.size ∧
  VRels (ρ.cut (Vec.size (S k).H)) cs (c.toList.take cs.length)
 dom : ∀ b p, ρ b = some p → b < Vec.size (S f).H ∨ ∃ k cs, f ≤ k ∧ Done ord Ls k ∧ (S (k + 1)).H = anew (S k).H cs ∧ b = Vec.size (S k).H
 sep : ∀ b b' p p', ρ b = some p → ρ b' = some p' → p.1 = p'.1 → Vec.size (S f).H ≤ b → b = b'
 told : ∀ k t, Done ord Ls k → dstAt ops ord k = some t → (∀ k', k < k' → Done ord Ls k' → dstAt ops ord k' ≠ some t) → ∃ v', a.tmps[t]? = some v' ∧ VRel (ρ.cut (Vec.size (S (k + 1)).H)) (S (k + 1)).v v'
 kept : ∀ t i, keep.idxOf? t = some i → (∀ k, Done ord Ls k → dstAt ops ord k ≠ some t) → ∃ v v', T[i]? = some v ∧ a.tmps[t]? = some v' ∧ VRel (ρ.cut (Vec.size (S 0).H)) v v'
 le0 : ρ0.le ρ
 heap : wi.heap.size ≤ w.heap.size
 names : ∀ b p, ρ b = some p → ρ0 b = some p ∨ X p.1 = none
 sizeA : a.tmps.size = sz0
 defs : a.defers = ds0
theorem Done.lt {k : Nat} (h : Done ord Ls k) : k < ord.length := by
 obtain ⟨i, hi, _⟩ := h
 exact (List.getElem?_eq_some_iff.1 hi).1
theorem size_anew (H : AH V) (cs : List Value) : Vec.size (anew H cs) = Vec.size H + 1 := Vec.size_push _ _
theorem Inv0.advance (C : Canon P share ops call T keep ord effs S) : ∀ (n : Nat) {f : Nat} {XD : Nat → Option Obj}, ord.length - f = n → Inv0 P X w0 wi ops T keep ord effs S ρ0 sz0 ds0 Ls f ρ XD a w →
  ∃ f' XD', Inv0 P X w0 wi ops T keep ord effs S ρ0 sz0 ds0 Ls f' ρ XD' a w ∧ (f' < ord.length → ¬ Done ord Ls f')
 | 0, f, XD, hn, I => ⟨f, XD, I, fun h => by omega⟩
 | n + 1, f, XD, hn, I => by
   by_cases hd : Done ord Ls f
   ·have hlt := hd.lt
    have hsz := C.size1 hlt
    have hf1 : ∀ k, k < f + 1 → Done ord Ls k := fun k hk => by
     by_cases e : k = f
     ·subst e; exact hd
     ·exact I.front k (by omega)
    rcases I.calm f (Nat.le_refl _) hd with hH | ⟨cs, hH⟩
    ·refine Inv0.advance C n (f := f + 1) (by omega) ⟨by omega, hf1, I.closed, by rw [hH]; exact I.now, I.xd, fun k hk => I.calm k (by omega), fun k cs hk => I.extra k cs (by omega), fun b p hb => ?_, fun b b' p p' h1 h2 h3 h4 => I.sep b b' p p' h1 h2 h3 (by omega), I.told, I.kept, I.le0, I.heap, I.names, I.sizeA, I.defs⟩
     rcases I.dom b p hb with h | ⟨k, cs, h1, h2, h3, h4⟩
     ·exact .inl (by rw [hH]; exact h)
     ·by_cases e : k = f
      ·subst e
       rw [hH] at h3
       have := congrArg Vec.size h3
       rw [size_anew] at this
       omega
      ·exact .inr ⟨k, cs, by omega, h2, h3, h4⟩
    ·obtain ⟨cb, c, e, q1, q2, q3, q4, q5, q6⟩ := I.extra f cs (Nat.le_refl _) hd hH
     have hs1 : Vec.size (S (f + 1)).H = Vec.size (S f).H + 1 := by rw [hH, size_anew]
     have hadm : Now P (putX XD cb none) w0 (ρ.cut (Vec.size (S (f + 1)).H)) (S (f + 1)).H w := by
      rw [hs1, hH]
      refine I.now.letIn q1 q2 q3 (fun b p hb hp hq => ?_) q5 q6
      have := I.sep _ _ _ _ q1 hp (by rw [hq]) (Nat.le_refl _)
      omega
     refine Inv0.advance C n (f := f + 1) (XD := putX XD cb none) (by omega) ⟨by omega, hf1, I.closed, hadm, fun k o hk => ?_, fun k hk => I.calm k (by omega), fun k cs' hk hdk hHk => ?_, fun b p hb => ?_, fun b b' p p' h1 h2 h3 h4 => I.sep b b' p p' h1 h2 h3 (by omega), I.told, I.kept, I.le0, I.heap, I.names, I.sizeA, I.defs⟩
     ·rw [putX_ne _ (fun e2 => by subst e2; rw [q4] at hk; cases hk)]
      exact I.xd k o hk
     ·obtain ⟨cb1, c1, e1, p1, p2, p3, p4⟩ := I.extra k cs' (by omega) hdk hHk
      have hsk := C.size (k := f + 1) (k' := k) (by omega) (by have := hdk.lt; omega)
      refine ⟨cb1, c1, e1, p1, p2, ?_, p4⟩
      rw [putX_ne _ (fun e2 => ?_)]
      ·exact p3
      ·subst e2
       have := I.sep _ _ _ _ p1 q1 rfl (by omega)
       omega
     ·rcases I.dom b p hb with h | ⟨k, cs, h1, h2, h3, h4⟩
      ·exact .inl (by omega)
      ·by_cases e : k = f
       ·subst e; exact .inl (by omega)
       ·exact .inr ⟨k, cs, by omega, h2, h3, h4⟩
   ·exact ⟨f, XD, I, fun _ => hd⟩
theorem Inv0.looked (C : Canon P share ops call T keep ord effs S) (I : Inv0 P X w0 wi ops T keep ord effs S ρ0 sz0 ds0 Ls f ρ XD a w) {k i : Nat} {o : Oper} (hk : ord[k]? = some i) (ho : ops[i]? = some o) (hnd : ¬ Ls i)
  (hah : ∀ x ∈ (aheadOf ops.toList).getD i [], Ls x) {t : Nat} (ht : t ∈ o.looksAt ops) {x : Org} (hx : (S k).m.find t = some x) :
  ∃ v v', oval T (S k).L x = some v ∧ a.tmps[t]? = some v' ∧ VRel (ρ.cut (Vec.size (S k).H)) v v' := by
 have hlt : k < ord.length := (List.getElem?_eq_some_iff.1 hk).1
 -- a place that tells t: done if and only if it is ahead
 have later : ∀ k1, k < k1 → Done ord Ls k1 → dstAt ops ord k1 ≠ some t := by
  rintro k1 h1 ⟨i1, hi1, hl1⟩ hdst
  have hlt1 : i1 < ops.size := C.plan.lt _ (List.mem_iff_getElem?.2 ⟨k1, hi1⟩)
  have ho1 : ops[i1]? = some ops[i1] := Array.getElem?_eq_getElem hlt1
  rw [dstAt_eq hi1 ho1] at hdst
  refine hnd (clash C I.closed hk hi1 ho ho1 h1 hl1 ?_)
  rw [← Bool.not_eq_true]
  exact fun hap => (Oper.apart_spec hap).2.2 t hdst ht
 have earlier : ∀ k1, k1 < k → dstAt ops ord k1 = some t → Done ord Ls k1 := by
  intro k1 h1 hdst
  obtain ⟨i1, o1, hi1, ho1⟩ := C.at (k := k1) (by omega)
  rw [dstAt_eq hi1 ho1] at hdst
  rcases C.plan.free i k hk i1 (take_mem hi1 h1) with h | ⟨oi, oj, e1, e2, e3, _⟩
  ·exact ⟨i1, hi1, hah _ h⟩
  ·rw [ho1] at e1; rw [ho] at e2
   cases e1; cases e2
   exact absurd ht ((Oper.apart_spec e3).1 t hdst)
 have self : ∀ k1, Done ord Ls k1 → k1 ≠ k := by
  rintro k1 ⟨i1, hi1, hl1⟩ rfl
  rw [hk] at hi1; cases hi1
  exact hnd hl1
 rcases C.env (k := k) (by omega) t x hx with ⟨k', h1, h2, h3, h4⟩ | ⟨h1, j, h2, rfl⟩
 ·obtain ⟨v', q1, q2⟩ := I.told k' t (earlier k' h1 h2) h2 (fun k'' a1 a2 => by
   rcases Nat.lt_trichotomy k'' k with hc | hc | hc
   ·exact h3 k'' a1 hc
   ·exact absurd hc (self k'' a2)
   ·exact later k'' hc a2)
  exact ⟨_, v', h4, q1, q2.mono (cut_le (C.size (by omega) (by omega)))⟩
 ·obtain ⟨v, v', q1, q2, q3⟩ := I.kept t j h2 (fun k'' a2 => by
   rcases Nat.lt_trichotomy k'' k with hc | hc | hc
   ·exact h1 k'' hc
   ·exact absurd hc (self k'' a2)
   ·exact later k'' hc a2)
  exact ⟨v, v', q1, q2, q3.mono (cut_le (C.size (by omega) (by omega)))⟩
theorem Inv0.tell (C : Canon P share ops call T keep ord effs S) (I : Inv0 P X w0 wi ops T keep ord effs S ρ0 sz0 ds0 Ls f ρ XD a w) {k i : Nat} {o : Oper} (hk : ord[k]? = some i) (ho : ops[i]? = some o) (hnd : ¬ Ls i) (hsz : ∀ d, o.dst = some d → d < a.tmps.size)
  (hle : ρ.le ρ') {v' : Value} (hv : VRel (ρ'.cut (Vec.size (S (k + 1)).H)) (S (k + 1)).v v') :
  (∀ k1 t, Done ord (fun j => Ls j ∨ j = i) k1 → dstAt ops ord k1 = some t → (∀ k', k1 < k' → Done ord (fun j => Ls j ∨ j = i) k' → dstAt ops ord k' ≠ some t) → ∃ v1, (a.put o.dst v').tmps[t]? = some v1 ∧ VRel (ρ'.cut (Vec.size (S (k1 + 1)).H)) (S (k1 + 1)).v v1) ∧
  (∀ t j, keep.idxOf? t = some j → (∀ k1, Done ord (fun j => Ls j ∨ j = i) k1 → dstAt ops ord k1 ≠ some t) → ∃ v v1, T[j]? = some v ∧ (a.put o.dst v').tmps[t]? = some v1 ∧ VRel (ρ'.cut (Vec.size (S 0).H)) v v1) := by
 have hdk := dstAt_eq (ops := ops) hk ho
 have up : ∀ k1, Done ord Ls k1 → Done ord (fun j => Ls j ∨ j = i) k1 := fun k1 ⟨i1, h1, h2⟩ => ⟨i1, h1, .inl h2⟩
 have hk' : Done ord (fun j => Ls j ∨ j = i) k := ⟨i, hk, .inr rfl⟩
 refine ⟨fun k1 t hd hdst hlater => ?_, fun t j hj hno => ?_⟩
 ·obtain ⟨i1, hi1, hl1⟩ := hd
  rcases hl1 with hl1 | rfl
  ·have hlt1 : i1 < ops.size := C.plan.lt _ (List.mem_iff_getElem?.2 ⟨k1, hi1⟩)
   have ho1 : ops[i1]? = some ops[i1] := Array.getElem?_eq_getElem hlt1
   have hne : o.dst ≠ some t := by
    intro hdo
    rcases Nat.lt_trichotomy k1 k with hc | hc | hc
    ·exact hlater k hc hk' (by rw [hdk]; exact hdo)
    ·subst hc; rw [hk] at hi1; cases hi1; exact hnd hl1
    ·rw [dstAt_eq hi1 ho1] at hdst
     refine hnd (clash C I.closed hk hi1 ho ho1 hc hl1 ?_)
     rw [← Bool.not_eq_true]
     exact fun hap => (Oper.apart_spec hap).2.1 t hdo hdst
   obtain ⟨v1, q1, q2⟩ := I.told k1 t ⟨i1, hi1, hl1⟩ hdst (fun k' a1 a2 => hlater k' a1 (up k' a2))
   exact ⟨v1, by rw [put_get hsz, if_neg hne]; exact q1, q2.mono (cut_mono hle _)⟩
  ·have : k1 = k := C.plan.inj hi1 hk
   subst this
   rw [hdk] at hdst
   exact ⟨v', by rw [put_get hsz, if_pos hdst], hv⟩
 ·have hne : o.dst ≠ some t := fun hdo => hno k hk' (by rw [hdk]; exact hdo)
  obtain ⟨v, v1, q1, q2, q3⟩ := I.kept t j hj (fun k1 a1 => hno k1 (up k1 a1))
  exact ⟨v, v1, q1, by rw [put_get hsz, if_neg hne]; exact q2, q3.mono (cut_mono hle _)⟩
end
end Go.Proofs.Ytggaimcopbjdiaa.AM
namespace Go.Proofs.Ytggaimcopbjdiaa.AM
section
variable {P : Program} {X : Nat → Option Obj} {w0 wi : World} {V : Type → Type} [Vec V] {share : Bool} {ops : Array Oper} {call : Value → List Value → AH V → Option (Value × AH V)} {T : AT} {keep ord effs : List Nat} {S : Nat → CS V}
 {ρ0 ρ ρ' : Rho} {Ls : Nat → Prop} {f sz0 : Nat} {XD : Nat → Option Obj} {a : Act} {w : World} {ds0 : List Deferred}
theorem load_inv {o : Oper} {n : Option Nat} {x : Operand} (hop : compileOp P share o = .load n x) : ∃ t, o.op = .load t x ∧ isAggT P t = some n := by
 obtain ⟨dst, op, type, pos, after, guard⟩ := o
 cases op <;> simp only [compileOp] at hop <;> (try (cases hop; done))
 case load t y =>
  split at hop
  ·cases hop; exact ⟨t, rfl, ‹_›⟩
  ·cases hop
 case call c =>
  exfalso
  obtain ⟨callee, args, argTypes⟩ := c
  cases callee <;> simp only at hop <;> (try (cases hop; done))
  all_goals (revert hop; (try unfold callOp); (repeat' split) <;> (intro hop; cases hop))
 all_goals (exfalso; revert hop; (try unfold callOp); (repeat' split) <;> (intro hop; cases hop))
theorem load_block {cb : Nat} {c : Array Value} {e : TypeId} {fr : Nat × Nat} (hh : w.heap[cb]? = some (.cells c e fr)) {cs : List Value} (hr : VRels ρ cs (c.toList.take cs.length)) {t : TypeId} {n : Option Nat} (hn : isAggT P t = some n) {off : Nat} {v : Value} (hl : acells cs n off = some v) :
  ∃ v', VRel ρ v v' ∧ (Instr.loadAt t (.pointer (some ⟨cb, 0 + off, none⟩))).run P w = .ok v' w := by
 have get : ∀ i u, cs[i]? = some u → ∃ u', c[i]? = some u' ∧ VRel ρ u u' := fun i u hu => by
  obtain ⟨u', h1, h2⟩ := hr.get hu
  have hi : i < cs.length := (List.getElem?_eq_some_iff.1 hu).1
  rw [List.getElem?_take, if_pos hi, Array.getElem?_toList] at h1
  exact ⟨u', h1, h2⟩
 cases n with
 | none =>
   obtain ⟨d, i, hd, hi, hagg⟩ := isAggT_none hn
   obtain ⟨v', h1, r⟩ := get off v hl
   have hc : w.cell? ⟨cb, 0 + off, none⟩ = some v' := by simp only [World.cell?, hh]; simpa using h1
   exact ⟨v', r, by simp only [Instr.loadAt, Instr.sureAddr, Sem.run_bind, Sem.run_pure, Result.andThen_ok, loadVar_plain hagg hc]⟩
 | some n =>
   obtain ⟨d, i, hd, hrow, hi, hsz, hagg⟩ := isAggT_some hn
   simp only [acells] at hl
   split at hl
   ·rename_i hle
    injection hl with hl
    subst hl
    have hlen := hr.length
    have hcl : cs.length ≤ c.size := by simp at hlen; omega
    refine ⟨.agg ((c.toList.drop off).take n).toArray, .agg ?_, run_loadAt_mid w cb (0 + off) t _ d (fun j u hj => ?_) hd hrow (by rw [hi]; simp; omega)⟩
    ·refine VRels.of_get (by simp; omega) fun j u hu => ?_
     have hj : j < n := by have := (List.getElem?_eq_some_iff.1 hu).1; simp at this; omega
     simp only [List.getElem?_take, if_pos hj, List.getElem?_drop] at hu ⊢
     obtain ⟨u', h1, h2⟩ := get _ _ hu
     exact ⟨u', by rw [Array.getElem?_toList]; exact h1, h2⟩
    ·have hj' : j < n := by have := (List.getElem?_eq_some_iff.1 hj).1; simp at this; omega
     rw [List.getElem?_take, if_pos hj', List.getElem?_drop, Array.getElem?_toList] at hj
     simp only [World.cell?, hh]
     simpa using hj
   ·cases hl
theorem Inv0.org (C : Canon P share ops call T keep ord effs S) (I : Inv0 P X w0 wi ops T keep ord effs S ρ0 sz0 ds0 Ls f ρ XD a w) {k i : Nat} {o : Oper} (hk : ord[k]? = some i) (ho : ops[i]? = some o) (hnd : ¬ Ls i)
  (hah : ∀ x ∈ (aheadOf ops.toList).getD i [], Ls x) {x : Operand} {y : Org} (hx : orgIn ops o (S k).m x = some y) : ∃ v, oval T (S k).L y = some v ∧ VRel (ρ.cut (Vec.size (S k).H)) v (a.eval x) := by
 cases x with
 | tmp t =>
   unfold orgIn at hx
   simp only at hx
   split at hx
   ·rename_i ht
    obtain ⟨v, v', h1, h2, h3⟩ := I.looked C hk ho hnd hah (by simpa using ht) hx
    exact ⟨v, h1, by simp only [Act.eval, Array.getD_eq_getD_getElem?, h2, Option.getD_some]; exact h3⟩
   ·cases hx
 | const c =>
   unfold orgIn at hx
   simp only [orgOf] at hx
   split at hx
   ·rename_i hf
    injection hx with hx
    subst hx
    exact ⟨c, rfl, .flat hf⟩
   ·cases hx
 | global g => cases hx
 | func fn =>
   injection hx with hx
   subst hx
   exact ⟨_, rfl, .fn .nil .nil⟩
theorem Inv0.erel (C : Canon P share ops call T keep ord effs S) (I : Inv0 P X w0 wi ops T keep ord effs S ρ0 sz0 ds0 Ls f ρ XD a w) {k i : Nat} {o : Oper} (hk : ord[k]? = some i) (ho : ops[i]? = some o) (hnd : ¬ Ls i)
  (hah : ∀ x ∈ (aheadOf ops.toList).getD i [], Ls x) : ERel (ρ.cut (Vec.size (S k).H)) (fun x => (srcIn ops o (S k).m (S k).L.length x).bind (sev T (S k).L)) a.eval := by
 intro x v hx
 simp only [srcIn] at hx
 cases hy : orgIn ops o (S k).m x with
 | none => rw [hy] at hx; cases hx
 | some y =>
   rw [hy] at hx
   obtain ⟨v', h1, h2⟩ := I.org C hk ho hnd hah hy
   simp only [Option.map_some, Option.bind_some, oval_src h1, Option.some.injEq] at hx
   exact hx ▸ h2
theorem Inv0.wanted (C : Canon P share ops call T keep ord effs S) (I : Inv0 P X w0 wi ops T keep ord effs S ρ0 sz0 ds0 Ls f ρ XD a w) {k i : Nat} {o : Oper} (hk : ord[k]? = some i) (ho : ops[i]? = some o) (hnd : ¬ Ls i)
  (hah : ∀ x ∈ (aheadOf ops.toList).getD i [], Ls x) {b : Bool} (hg : Goes ops T o (S k) b) : Region.wanted o (yielded ops a.tmps) = b := by
 cases hg with
 | free hg hb => subst hb; simp only [Region.wanted, hg]
 | @ask j d want src hg hj hs hw =>
   unfold srcIn at hs
   cases hy : orgIn ops o (S k).m (.tmp d) with
   | none => rw [hy] at hs; cases hs
   | some y =>
     rw [hy] at hs
     injection hs with hs
     subst hs
     unfold orgIn at hy
     simp only at hy
     split at hy
     ·rename_i ht
      obtain ⟨v, v', h1, h2, h3⟩ := I.looked C hk ho hnd hah (by simpa using ht) hy
      rw [← hw]
      simp only [Region.wanted, hg, yielded, hj, Option.bind_some, h2, awanted, oval_src h1]
      cases h3 with
      | flat hf => cases v <;> simp <;> (first | rfl | (rename_i b; cases b <;> cases want <;> rfl))
      | _ => rfl
     ·cases hy
theorem Inv0.lo (C : Canon P share ops call T keep ord effs S) (I : Inv0 P X w0 wi ops T keep ord effs S ρ0 sz0 ds0 Ls f ρ XD a w) (stop : f < ord.length → ¬ Done ord Ls f) {i : Nat} (hah : ∀ x ∈ (aheadOf ops.toList).getD i [], Ls x) :
  (ord.filter fun e => effs.contains e && ((aheadOf ops.toList).getD i []).contains e).length + 1 ≤ (S f).G.length := by
 rw [C.glen I.fle]
 have h0 : (ord.drop f).filter (fun e => effs.contains e && ((aheadOf ops.toList).getD i []).contains e) = [] := by
  rw [List.filter_eq_nil_iff]
  intro e he hp
  simp only [Bool.and_eq_true, List.contains_iff_mem] at hp
  obtain ⟨j, hj⟩ := List.mem_iff_getElem?.1 he
  rw [List.getElem?_drop] at hj
  have hlt : f + j < ord.length := (List.getElem?_eq_some_iff.1 hj).1
  have hls := hah e hp.2
  have hne : f ≠ f + j := fun hq => stop (by omega) ⟨e, by rw [hq]; exact hj, hls⟩
  have hlt1 : e < ops.size := C.plan.lt _ (List.mem_iff_getElem?.2 ⟨_, hj⟩)
  have he1 : ops[e]? = some ops[e] := Array.getElem?_eq_getElem hlt1
  exact stop (by omega) (eff_first (o := ops[e]) C hj hp.1 (dep_of e _ I.closed he1 (I.closed e _ he1 hls)) f (by omega))
 have hs : ord.filter (fun e => effs.contains e && ((aheadOf ops.toList).getD i []).contains e) = (ord.take f).filter (fun e => effs.contains e && ((aheadOf ops.toList).getD i []).contains e) := by
  conv => lhs; rw [← List.take_append_drop f ord, List.filter_append, h0, List.append_nil]
 rw [hs]
 have hle : ∀ l : List Nat, (l.filter (fun e => effs.contains e && ((aheadOf ops.toList).getD i []).contains e)).length ≤ (l.filter fun e => effs.contains e).length := by
  intro l
  induction l with
  | nil => simp
  | cons x l ih =>
    simp only [List.filter_cons]
    cases effs.contains x <;> cases ((aheadOf ops.toList).getD i []).contains x <;> simp only [Bool.and_true, Bool.and_false, Bool.false_eq_true, if_true, if_false, List.length_cons] <;> omega
 have := hle (ord.take f)
 omega
theorem Inv0.load (C : Canon P share ops call T keep ord effs S) (I : Inv0 P X w0 wi ops T keep ord effs S ρ0 sz0 ds0 Ls f ρ XD a w) (stop : f < ord.length → ¬ Done ord Ls f) {k i : Nat} (hk : ord[k]? = some i) (hf : f ≤ k)
  (hah : ∀ x ∈ (aheadOf ops.toList).getD i [], Ls x) {t : TypeId} {n : Option Nat} (hn : isAggT P t = some n) {p p' v : Value} (hp : VRel (ρ.cut (Vec.size (S k).H)) p p') (hl : aload (S k).H n p = some v)
  (hst : stable ((S k).G.drop 1) ((S k).G.length - 1 - (ord.filter fun e => effs.contains e && ((aheadOf ops.toList).getD i []).contains e).length) n p v = true) :
  ∃ v', VRel (ρ.cut (Vec.size (S k).H)) v v' ∧ (Instr.loadAt t p').run P w = .ok v' w := by
 have hlt : k < ord.length := (List.getElem?_eq_some_iff.1 hk).1
 have hsz := C.size hf (by omega)
 obtain ⟨pre, hpre, hext⟩ := C.between (f := f) (k := k) hf (by omega)
 obtain ⟨g, r, hg, hge⟩ := C.head I.fle
 -- the pointer, below the front
 have below : ∀ {b off : Nat}, p = .pointer (some ⟨b, off, none⟩) → b < Vec.size (S f).H → VRel (ρ.cut (Vec.size (S f).H)) p p' := by
  intro b off hpp hb
  subst hpp
  obtain ⟨b', o', cb, co, hq, hρ, rfl⟩ := hp.ptr_some
  cases hq
  exact .ptr (cut_some.2 ⟨hb, (cut_some.1 hρ).2⟩)
 have hptr : ∃ b off cs, p = .pointer (some ⟨b, off, none⟩) ∧ arow (S k).H b = some cs ∧ acells cs n off = some v := by
  unfold aload at hl
  split at hl
  ·split at hl
   ·exact ⟨_, _, _, rfl, ‹_›, hl⟩
   ·cases hl
  ·cases hl
 obtain ⟨b, off, cs, hpp, hrow, hcell⟩ := hptr
 by_cases hpn : pre = []
 ·obtain ⟨g1, g2⟩ := hext hpn
  by_cases hb : b < Vec.size (S f).H
  ·have hl' : aload (S f).H n p = some v := by
    subst hpp
    simp only [aload, arow] at hl ⊢
    rw [← g1 b hb]
    exact hl
   obtain ⟨v', h1, h2⟩ := load_sound (P := P) I.now.st hn (below hpp hb) (fun b B _ hB => view_some hB) hl'
   exact ⟨v', h1.mono (cut_le hsz), h2⟩
  ·obtain ⟨wr, lo, hget⟩ := arow_some hrow
   have hbk := Vec.get_lt _ _ _ hget
   obtain ⟨k1, cs1, x1, x2, x3, x4, x5⟩ := g2 b (by omega) hbk
   rw [hget] at x5
   cases x5
   subst hpp
   obtain ⟨b', o', cb, co, hq, hρ, rfl⟩ := hp.ptr_some
   cases hq
   have hρb := (cut_some.1 hρ).2
   have hd1 : Done ord Ls k1 := by
    rcases I.dom b _ hρb with h | ⟨k2, cs2, y1, y2, y3, y4⟩
    ·omega
    ·have : k1 = k2 := by
      rcases Nat.lt_trichotomy k1 k2 with hc | hc | hc
      ·have := C.size (k := k1 + 1) (k' := k2) (by omega) (by have := y2.lt; omega)
       rw [x4, size_anew] at this
       omega
      ·exact hc
      ·have := C.size (k := k2 + 1) (k' := k1) (by omega) (by omega)
       rw [y3, size_anew] at this
       omega
     subst this
     exact y2
   obtain ⟨cb1, c, e, q1, q2, q3, q4, q5, q6⟩ := I.extra k1 cs x1 hd1 x4
   rw [← x3, hρb] at q1
   cases q1
   have hheap := I.now.st.frame cb _ q3
   obtain ⟨v', h1, h2⟩ := load_block (P := P) hheap q6 hn hcell
   exact ⟨v', h1.mono (cut_le (C.size (by omega) (by omega))), h2⟩
 ·-- told the same behind the last effect that is done
  have hlo := I.lo C stop hah
  revert hst hlo
  generalize (ord.filter fun e => effs.contains e && ((aheadOf ops.toList).getD i []).contains e).length = lo0
  intro hst hlo
  have hmem : g ∈ ((S k).G.drop 1).take ((S k).G.length - 1 - lo0) := by
   rw [hg, List.length_cons] at hlo
   rw [hpre, hg]
   cases pre with
   | nil => exact absurd rfl hpn
   | cons x pre =>
     refine List.mem_iff_getElem?.2 ⟨pre.length, ?_⟩
     rw [List.getElem?_take, if_pos (by simp; omega)]
     simp
  unfold stable at hst
  have hs1 := List.all_eq_true.1 hst g hmem
  split at hs1
  ·rename_i u hu
   have := veq_eq hs1
   subst this
   have hbg : b < Vec.size (S f).H := by
    subst hpp
    unfold aload at hu
    simp only at hu
    split at hu
    ·rename_i cs2 hr2
     obtain ⟨wr2, lo2, hget2⟩ := arow_some hr2
     exact Vec.get_lt _ _ _ (hge _ _ hget2)
    ·cases hu
   obtain ⟨v', h1, h2⟩ := load_sound (P := P) I.now.st hn (below hpp hbg) (fun b B _ hB => view_some (hge _ _ hB)) hu
   exact ⟨v', h1.mono (cut_le hsz), h2⟩
  ·cases hs1
end
end Go.Proofs.Ytggaimcopbjdiaa.AM
namespace Go.Proofs.Ytggaimcopbjdiaa.AM
section
variable {P : Program} {X : Nat → Option Obj} {w0 wi : World} {V : Type → Type} [Vec V] {share : Bool} {ops : Array Oper} {call : Value → List Value → AH V → Option (Value × AH V)} {T : AT} {keep ord effs : List Nat} {S : Nat → CS V}
 {ρ0 ρ ρ' : Rho} {Ls : Nat → Prop} {f sz0 : Nat} {XD : Nat → Option Obj} {a : Act} {w : World} {ds0 : List Deferred} {r : Option Nat} {n : Nat} {Q : Exit → Act → World → Prop}
theorem op_kind {χ : Type} (op : AOp χ) : op = .bad ∨ isPure op = true ∨ isNew op = true ∨ isEff op = true ∨ ∃ n x, op = .load n x := by
 cases op <;> simp [isPure, isNew, isEff]
def glue (ρ1 ρ : Rho) (n : Nat) : Rho := ⟨fun b => if b < n then ρ1 b else ρ b, fun b => if b < n then ρ1.lim b else ρ.lim b⟩
theorem glue_lo {ρ1 ρ : Rho} {n b : Nat} (h : b < n) : glue ρ1 ρ n b = ρ1 b ∧ (glue ρ1 ρ n).lim b = ρ1.lim b := by
 constructor
 ·show (if b < n then ρ1 b else ρ b) = _; rw [if_pos h]
 ·show (if b < n then ρ1.lim b else ρ.lim b) = _; rw [if_pos h]
theorem glue_hi {ρ1 ρ : Rho} {n b : Nat} (h : ¬ b < n) : glue ρ1 ρ n b = ρ b ∧ (glue ρ1 ρ n).lim b = ρ.lim b := by
 constructor
 ·show (if b < n then ρ1 b else ρ b) = _; rw [if_neg h]
 ·show (if b < n then ρ1.lim b else ρ.lim b) = _; rw [if_neg h]
theorem draw_step (C : Canon P share ops call T keep ord effs S) (hcall : CallOk P call) (I : Inv0 P X w0 wi ops T keep ord effs S ρ0 sz0 ds0 Ls f ρ XD a w) (stop : f < ord.length → ¬ Done ord Ls f) {i : Nat} {o : Oper} (ho : ops[i]? = some o) (hnd : ¬ Ls i)
  (hready : ∀ e ∈ o.after.toList, Region.binds .any e = true → Ls e.on) (hdst : ∀ d, o.dst = some d → d < sz0) {K : Act → World → Prop}
  (hK : ∀ f' ρ' XD' a' w', Inv0 P X w0 wi ops T keep ord effs S ρ0 sz0 ds0 (fun j => Ls j ∨ j = i) f' ρ' XD' a' w' → (f' < ord.length → ¬ Done ord (fun j => Ls j ∨ j = i) f') → K a' w') : wpOpIn (FW r) n P ops Q i K a w := by
 have hi : i < ops.size := (Array.getElem?_eq_some_iff.1 ho).1
 obtain ⟨k, hk⟩ := C.plan.pos hi
 have hlt : k < ord.length := (List.getElem?_eq_some_iff.1 hk).1
 have hah := dep_of i o I.closed ho hready
 have hself : ∀ k1, Done ord Ls k1 → k1 ≠ k := by
  rintro k1 ⟨i1, hi1, hl1⟩ rfl
  rw [hk] at hi1; cases hi1
  exact hnd hl1
 have hf : f ≤ k := Nat.le_of_not_lt fun hh => hself k (I.front k hh) rfl
 have hszA : ∀ d, o.dst = some d → d < a.tmps.size := fun d hd => by rw [I.sizeA]; exact hdst d hd
 have up : ∀ k1, Done ord Ls k1 → Done ord (fun j => Ls j ∨ j = i) k1 := fun k1 ⟨i1, h1, h2⟩ => ⟨i1, h1, .inl h2⟩
 have hk' : Done ord (fun j => Ls j ∨ j = i) k := ⟨i, hk, .inr rfl⟩
 have down : ∀ k1, Done ord (fun j => Ls j ∨ j = i) k1 → k1 ≠ k → Done ord Ls k1 := by
  rintro k1 ⟨i1, hi1, hl1⟩ hne
  rcases hl1 with hl1 | rfl
  ·exact ⟨i1, hi1, hl1⟩
  ·exact absurd (C.plan.inj hi1 hk) hne
 have hcl : Closed ops (fun j => Ls j ∨ j = i) := by
  intro j o' hj hl e he hb
  rcases hl with hl | rfl
  ·exact .inl (I.closed j o' hj hl e he hb)
  ·rw [ho] at hj; cases hj
   exact .inl (hready e he hb)
 have hK' : ∀ f' ρ' XD' a' w', Inv0 P X w0 wi ops T keep ord effs S ρ0 sz0 ds0 (fun j => Ls j ∨ j = i) f' ρ' XD' a' w' → K a' w' := fun f' ρ' XD' a' w' J => by
  obtain ⟨f2, XD2, J2, hs⟩ := J.advance C _ rfl
  exact hK f2 ρ' XD2 a' w' J2 hs
 have hsz1 := C.size1 hlt
 have hszf := C.size hf (by omega)
 have he := I.erel C hk ho hnd hah
 -- memory as it was
 have same : (S (k + 1)).H = (S k).H → ∀ v', VRel (ρ.cut (Vec.size (S k).H)) (S (k + 1)).v v' → K (a.put o.dst v') w := by
  intro hH v' hv
  obtain ⟨t1, t2⟩ := I.tell C hk ho hnd hszA (Rho.le.refl ρ) (v' := v') (by rw [hH]; exact hv)
  refine hK' f ρ XD _ w ⟨I.fle, fun k1 h1 => up k1 (I.front k1 h1), hcl, I.now, I.xd, fun k1 h1 hd => ?_, fun k1 cs h1 hd hHk => ?_, fun b p hb => ?_, I.sep, t1, t2, I.le0, I.heap, I.names, by rw [put_size]; exact I.sizeA, by rw [put_defers]; exact I.defs⟩
  ·by_cases e : k1 = k
   ·subst e; exact .inl hH
   ·exact I.calm k1 h1 (down k1 hd e)
  ·by_cases e : k1 = k
   ·subst e
    rw [hH] at hHk
    have := congrArg Vec.size hHk
    rw [size_anew] at this
    omega
   ·exact I.extra k1 cs h1 (down k1 hd e) hHk
  ·rcases I.dom b p hb with h | ⟨k1, cs, h1, h2, h3⟩
   ·exact .inl h
   ·exact .inr ⟨k1, cs, h1, up k1 h2, h3⟩
 have hab : ∀ fn, o.about P w a.eval = some fn → (FW r).fn fn := fun _ _ => trivial
 cases (C.step k i o hk ho).1 with
 | @other x hg hc hy hv hm hL hH hG =>
   obtain ⟨v, h1, h2⟩ := I.org C hk ho hnd hah hy
   rw [hv] at h1
   cases h1
   unfold wpOpIn
   simp only [ho, Region.wanted, hg, if_true]
   refine ⟨hab, ?_⟩
   rw [Oper.semAt_eq _ _ _ (mov_not_defer hc), move_exec hc, Sem.run_pure, Oper.uponIn_value]
   exact same hH _ h2
 | skip hop hw hv hy hm hL hH hG =>
   have hwt := I.wanted C hk ho hnd hah hw
   unfold wpOpIn
   simp only [ho, hwt, Bool.false_eq_true, if_false]
   exact ⟨hab, same hH _ (by rw [hv]; exact .flat rfl)⟩
 | @exec op' hop hw hx hy hm hL hl hsz hG =>
   have hwt := I.wanted C hk ho hnd hah hw
   rw [aexec_mapM hop] at hx
   unfold wpOpIn
   simp only [ho, hwt, if_true]
   rcases op_kind (compileOp P share o) with hb | hp | hn | hef | ⟨n', x, hld⟩
   ·rw [hb] at hx; simp [aexec] at hx
   ·obtain ⟨hH, v', hr, hyes⟩ := pure_sound he hp hx
    refine ⟨hab, ?_⟩
    rw [Oper.semAt_eq _ _ _ (not_defer hx), hyes w, Oper.uponIn_value]
    exact same hH v' hr
   ·-- a new block
    obtain ⟨cs, fv, c, e, hH, hmk⟩ := new_sound he hn hx
    refine ⟨hab, ?_⟩
    rw [Oper.semAt_eq _ _ _ (not_defer hx), hmk.run w, Oper.uponIn_value]
    have hnone : ρ (Vec.size (S k).H) = none := by
     cases hq : ρ (Vec.size (S k).H) with
     | none => rfl
     | some p =>
       rcases I.dom _ _ hq with h | ⟨k1, cs1, h1, h2, h3, h4⟩
       ·omega
       ·have hne := hself k1 h2
        rcases Nat.lt_or_ge k1 k with hc | hc
        ·have := C.size (k := k1 + 1) (k' := k) (by omega) (by omega)
         rw [h3, size_anew] at this
         omega
        ·have := C.size (k := k + 1) (k' := k1) (by omega) (by have := h2.lt; omega)
         rw [hH, size_anew] at this
         omega
    have hs1 : Vec.size (S (k + 1)).H = Vec.size (S k).H + 1 := by rw [hH, size_anew]
    have hle : ρ.le (ρ.upd (Vec.size (S k).H) (w.heap.size, 0) (some (cs.length, c.size))) := Rho.le_upd _ _ hnone
    have hcutle : (ρ.cut (Vec.size (S k).H)).le ((ρ.upd (Vec.size (S k).H) (w.heap.size, 0) (some (cs.length, c.size))).cut (Vec.size (S (k + 1)).H)) := (cut_mono hle _).trans (cut_le (by omega))
    have hv : VRel ((ρ.upd (Vec.size (S k).H) (w.heap.size, 0) (some (cs.length, c.size))).cut (Vec.size (S (k + 1)).H)) (S (k + 1)).v (fv w.heap.size) :=
     hmk.val _ _ hcutle (cut_some.2 ⟨by omega, Rho.upd_same _ _ _ _⟩)
    obtain ⟨t1, t2⟩ := I.tell C hk ho hnd hszA hle hv
    have hfresh : XD w.heap.size = none := I.now.st.fresh
    have hXf : X w.heap.size = none := by
     cases hq : X w.heap.size with
     | none => rfl
     | some ob => rw [I.xd _ _ hq] at hfresh; cases hfresh
    have hbelow : ∀ b p, ρ b = some p → p.1 < w.heap.size := by
     intro b p hb
     rcases I.dom b p hb with h | ⟨k1, cs1, h1, h2, h3, h4⟩
     ·exact I.now.st.dom b p (cut_some.2 ⟨h, hb⟩)
     ·obtain ⟨cb, c1, e1, q1, q2, q3, _⟩ := I.extra k1 cs1 h1 h2 h3
      subst h4
      rw [hb] at q1
      cases q1
      exact (Array.getElem?_eq_some_iff.1 (I.now.st.frame cb _ q3)).1
    refine hK' f _ (putX XD w.heap.size (some (.cells c e (0, 0)))) _ _ ⟨I.fle, fun k1 h1 => up k1 (I.front k1 h1), hcl, ?_, fun cb ob hcb => ?_, fun k1 h1 hd => ?_, fun k1 cs1 h1 hd hHk => ?_, fun b p hb => ?_, fun b b' p p' hb hb' hq hge => ?_, t1, t2, I.le0.trans hle, ?_, fun b p hb => ?_, by rw [put_size]; exact I.sizeA, by rw [put_defers]; exact I.defs⟩
    ·refine (I.now.beside (.cells c e)).rho (cut_mono hle _) (fun b p hb => ?_)
     rw [cut_some] at hb ⊢
     refine ⟨hb.1, ?_⟩
     have := hb.2
     rwa [Rho.upd_ne ρ _ _ (by omega)] at this
    ·rw [putX_ne _ (fun e2 => by subst e2; rw [hXf] at hcb; cases hcb)]
     exact I.xd cb ob hcb
    ·by_cases e1 : k1 = k
     ·subst e1; exact .inr ⟨cs, hH⟩
     ·exact I.calm k1 h1 (down k1 hd e1)
    ·by_cases e1 : k1 = k
     ·subst e1
      have hcs : cs1 = cs := by
       rw [hH, anew_eq, anew_eq] at hHk
       have := congrArg (fun A => Vec.get A (Vec.size (S k1).H)) hHk
       simp only [Vec.get_push, if_true, Option.some.injEq, Blk.arr.injEq] at this
       exact this.1.symm
      subst hcs
      exact ⟨w.heap.size, c, e, Rho.upd_same _ _ _ _, Rho.lim_same _ _ _ _, putX_same _ _, hXf, hmk.le, hmk.rel.mono (cut_mono hle _)⟩
     ·obtain ⟨cb, c1, e2, q1, q2, q3, q4, q5, q6⟩ := I.extra k1 cs1 h1 (down k1 hd e1) hHk
      have hne : Vec.size (S k1).H ≠ Vec.size (S k).H := fun hh => by rw [hh, hnone] at q1; cases q1
      refine ⟨cb, c1, e2, by rw [Rho.upd_ne ρ _ _ hne]; exact q1, by rw [Rho.lim_ne ρ _ _ hne]; exact q2, ?_, q4, q5, q6.mono (cut_mono hle _)⟩
      rw [putX_ne _ (by have := hbelow _ _ q1; simp only at this; omega)]
      exact q3
    ·by_cases e1 : b = Vec.size (S k).H
     ·exact .inr ⟨k, cs, hf, hk', hH, e1⟩
     ·rw [Rho.upd_ne ρ _ _ e1] at hb
      rcases I.dom b p hb with h | ⟨k1, cs1, h1, h2, h3⟩
      ·exact .inl h
      ·exact .inr ⟨k1, cs1, h1, up k1 h2, h3⟩
    ·by_cases e1 : b = Vec.size (S k).H
     ·by_cases e2 : b' = Vec.size (S k).H
      ·omega
      ·rw [Rho.upd_ne ρ _ _ e2] at hb'
       subst e1
       rw [Rho.upd_same] at hb
       cases hb
       have := hbelow _ _ hb'
       simp only at hq
       omega
     ·rw [Rho.upd_ne ρ _ _ e1] at hb
      by_cases e2 : b' = Vec.size (S k).H
      ·subst e2
       rw [Rho.upd_same] at hb'
       cases hb'
       have := hbelow _ _ hb
       simp only at hq
       omega
      ·rw [Rho.upd_ne ρ _ _ e2] at hb'
       exact I.sep b b' p p' hb hb' hq hge
    ·have := I.heap
     show _ ≤ (w.heap.push _).size
     simp; omega
    ·rcases names_upd (X := X) hXf b p hb with hh | hh
     ·exact I.names b p hh
     ·exact .inr hh
   ·-- an effect: all ahead of it is done
    have hie : i ∈ effs := (C.eff i o ho).2 hef
    have hkf : k = f := by
     rcases Nat.lt_or_ge f k with hc | hc
     ·exact absurd (eff_first (o := o) C hk hie hah f hc) (stop (by omega))
     ·omega
    subst hkf
    refine exact_op hcall I.now he hx fun ρ1 v' w' hd => ?_
    have hn1 : ∀ b p, ρ1 b = some p → b < Vec.size (S (k + 1)).H := hd.now.dom
    have hle : ρ.le (glue ρ1 ρ (Vec.size (S (k + 1)).H)) := by
     intro b p hb
     by_cases hlt1 : b < Vec.size (S (k + 1)).H
     ·rw [(glue_lo hlt1).1, (glue_lo hlt1).2]
      rcases I.dom b p hb with h | ⟨k1, cs1, h1, h2, h3, h4⟩
      ·exact hd.le b p (cut_some.2 ⟨h, hb⟩)
      ·have hne := hself k1 h2
       have := C.size (k := k + 1) (k' := k1) (by omega) (by have := h2.lt; omega)
       omega
     ·rw [(glue_hi hlt1).1, (glue_hi hlt1).2]; exact ⟨hb, rfl⟩
    have hcut1 : ρ1.le ((glue ρ1 ρ (Vec.size (S (k + 1)).H)).cut (Vec.size (S (k + 1)).H)) := fun b p hb => by
     have := hn1 b p hb
     exact ⟨cut_some.2 ⟨this, by rw [(glue_lo this).1]; exact hb⟩, (glue_lo this).2⟩
    obtain ⟨t1, t2⟩ := I.tell C hk ho hnd hszA hle (hd.val.mono hcut1)
    have hfr : ∀ k1, k + 1 ≤ k1 → Vec.size (S (k + 1)).H ≤ Vec.size (S k1).H ∨ ¬ k1 ≤ ord.length := fun k1 h1 => by
     by_cases h2 : k1 ≤ ord.length
     ·exact .inl (C.size h1 h2)
     ·exact .inr h2
    refine hK' (k + 1) _ XD _ w' ⟨by omega, fun k1 h1 => ?_, hcl, hd.now.rho hcut1 (fun b p hb => ?_), I.xd, fun k1 h1 hdk => I.calm k1 (by omega) (down k1 hdk (by omega)), fun k1 cs1 h1 hdk hHk => ?_, fun b p hb => ?_, fun b b' p p' hb hb' hq hge => ?_, t1, t2, I.le0.trans hle, Nat.le_trans I.heap hd.heap, fun b p hb => ?_, by rw [put_size]; exact I.sizeA, by rw [put_defers]; exact I.defs⟩
    ·by_cases e1 : k1 = k
     ·subst e1; exact hk'
     ·exact up k1 (I.front k1 (by omega))
    ·rw [cut_some] at hb
     have := hb.2
     rwa [(glue_lo hb.1).1] at this
    ·obtain ⟨cb, c1, e2, q1, q2, q3, q4, q5, q6⟩ := I.extra k1 cs1 (by omega) (down k1 hdk (by omega)) hHk
     have hge1 : ¬ Vec.size (S k1).H < Vec.size (S (k + 1)).H := by
      rcases hfr k1 h1 with h | h
      ·omega
      ·have := hdk.lt; omega
     exact ⟨cb, c1, e2, by rw [(glue_hi hge1).1]; exact q1, by rw [(glue_hi hge1).2]; exact q2, q3, q4, q5, q6.mono (cut_mono hle _)⟩
    ·by_cases hlt1 : b < Vec.size (S (k + 1)).H
     ·exact .inl hlt1
     ·rw [(glue_hi hlt1).1] at hb
      rcases I.dom b p hb with h | ⟨k1, cs1, h1, h2, h3, h4⟩
      ·omega
      ·have hne := hself k1 h2
       exact .inr ⟨k1, cs1, by omega, up k1 h2, h3, h4⟩
    ·have hnl : ¬ b < Vec.size (S (k + 1)).H := by omega
     rw [(glue_hi hnl).1] at hb
     by_cases hlt1 : b' < Vec.size (S (k + 1)).H
     ·rw [(glue_lo hlt1).1] at hb'
      rcases hd.names b' p' hb' with hh | hh
      ·exact I.sep b b' p p' hb (cut_some.1 hh).2 hq (by omega)
      ·rcases I.dom b p hb with h | ⟨k1, cs1, h1, h2, h3, h4⟩
       ·omega
       ·obtain ⟨cb, c1, e2, q1, q2, q3, _⟩ := I.extra k1 cs1 h1 h2 h3
        subst h4
        rw [hb] at q1
        cases q1
        rw [← hq, q3] at hh
        cases hh
     ·rw [(glue_hi hlt1).1] at hb'
      exact I.sep b b' p p' hb hb' hq (by omega)
    ·by_cases hlt1 : b < Vec.size (S (k + 1)).H
     ·rw [(glue_lo hlt1).1] at hb
      rcases hd.names b p hb with hh | hh
      ·exact I.names b p (cut_some.1 hh).2
      ·refine .inr ?_
       cases hq : X p.1 with
       | none => rfl
       | some ob => rw [I.xd _ _ hq] at hh; cases hh
     ·rw [(glue_hi hlt1).1] at hb
      exact I.names b p hb
   ·-- a load
    obtain ⟨t, hopl, hagg⟩ := load_inv hld
    have hx0 := hx
    rw [hld] at hx
    obtain ⟨h1, hH⟩ := withH_some hx
    obtain ⟨p, hp, hal⟩ := x1_some h1
    rw [hld] at hop
    simp only [AOp.mapM] at hop
    obtain ⟨s, hs, rfl⟩ := m1_some hop
    have hsev : sev T (S k).L s = some p := by
     simp only [hs, Option.bind_some] at hp
     exact hp
    simp only [loadOk, hsev] at hl
    obtain ⟨v', hr, hrun⟩ := I.load C stop hk hf hah hagg (he _ _ hp) hal hl
    refine ⟨hab, ?_⟩
    rw [Oper.semAt_eq _ _ _ (not_defer hx0)]
    simp only [execOp, hopl, Sem.run_bind, hrun, Result.andThen_ok, Sem.run_pure, Oper.uponIn_value]
    exact same hH v' hr
end
end Go.Proofs.Ytggaimcopbjdiaa.AM
namespace Go.Proofs.Ytggaimcopbjdiaa.AM
theorem filterMap_len {α : Type} {f : Nat → Option α} : ∀ {ord : List Nat}, (∀ i ∈ ord, (f i).isSome = true) → (ord.filterMap f).length = ord.length
 | [], _ => rfl
 | i :: ord, h => by
   obtain ⟨x, hx⟩ := Option.isSome_iff_exists.1 (h i (by simp))
   rw [List.filterMap_cons_some hx, List.length_cons, List.length_cons, filterMap_len (fun j hj => h j (by simp [hj]))]
theorem count_set : ∀ {l : List Bool} {i : Nat}, l[i]? = some false → (l.set i true).count false + 1 = l.count false
 | [], i, h => by simp at h
 | b :: l, 0, h => by
   simp at h
   subst h
   simp [List.count_cons]
 | b :: l, i + 1, h => by
   have := count_set (l := l) (i := i) (by simpa using h)
   rw [List.set_cons_succ, List.count_cons, List.count_cons]
   omega
section
variable {P : Program} {X : Nat → Option Obj} {w0 wi : World} {V : Type → Type} [Vec V] {share : Bool} {ops : Array Oper} {call : Value → List Value → AH V → Option (Value × AH V)} {T : AT} {keep ord effs : List Nat} {S : Nat → CS V}
 {ρ0 : Rho} {sz0 : Nat} {ds0 : List Deferred} {r : Option Nat} {n : Nat} {Q : Exit → Act → World → Prop}
def lsOf (listed : Array Bool) : Nat → Prop := fun j => listed[j]? = some true
theorem any_sound (C : Canon P share ops call T keep ord effs S) (hcall : CallOk P call) (hdst : ∀ (i : Nat) (o : Oper), ops[i]? = some o → ∀ d, o.dst = some d → d < sz0)
  (hQ : ∀ ρ XD a w, Inv0 P X w0 wi ops T keep ord effs S ρ0 sz0 ds0 (fun j => j < ops.size) ord.length ρ XD a w → Q .normal a w) :
  ∀ (fuel : Nat) (listed : Array Bool) (f : Nat) (ρ : Rho) (XD : Nat → Option Obj) (a : Act) (w : World), listed.size = ops.size → listed.toList.count false = fuel →
   Inv0 P X w0 wi ops T keep ord effs S ρ0 sz0 ds0 (lsOf listed) f ρ XD a w → (f < ord.length → ¬ Done ord (lsOf listed) f) → wpAnyIn (FW r) n P .any ops Q fuel listed a w := by
 have allOf : ∀ (listed : Array Bool), listed.size = ops.size → Region.ready .any ops listed = [] → ∀ j, j < ops.size → lsOf listed j := by
  intro listed hsz hr
  have key : ∀ (k j : Nat), ord[k]? = some j → lsOf listed j := by
   intro k
   induction k using Nat.strongRecOn with
   | _ k ih =>
     intro j hj
     have hlt := C.plan.lt j (List.mem_iff_getElem?.2 ⟨k, hj⟩)
     have ho : ops[j]? = some ops[j] := Array.getElem?_eq_getElem hlt
     refine Classical.byContradiction fun hn => ?_
     have hmem : j ∈ Region.ready .any ops listed := by
      rw [mem_ready]
      refine ⟨?_, _, ho, fun e he hb => ?_⟩
      ·have hjl : j < listed.size := by omega
       have : listed[j]? = some listed[j] := Array.getElem?_eq_getElem hjl
       rw [Array.getD_eq_getD_getElem?, this, Option.getD_some]
       cases hq : listed[j] with
       | false => rfl
       | true => exact absurd (by show listed[j]? = some true; rw [this, hq]) hn
      ·have h1 := ahead_direct (ops := ops.toList) (i := j) (by rw [Array.getElem?_toList]; exact ho) (Array.mem_toList_iff.2 he) hb
       obtain ⟨k', h2, h3⟩ := mem_take (C.plan.before j k hj _ h1)
       have h4 := ih k' h2 _ h3
       show listed.getD e.on false = true
       rw [Array.getD_eq_getD_getElem?, show listed[e.on]? = some true from h4]
       rfl
     rw [hr] at hmem
     cases hmem
  intro j hj
  obtain ⟨k, hk⟩ := C.plan.pos hj
  exact key k j hk
 have fin : ∀ (listed : Array Bool) (f : Nat) (ρ : Rho) (XD : Nat → Option Obj) (a : Act) (w : World), listed.size = ops.size → Region.ready .any ops listed = [] →
   Inv0 P X w0 wi ops T keep ord effs S ρ0 sz0 ds0 (lsOf listed) f ρ XD a w → (f < ord.length → ¬ Done ord (lsOf listed) f) → Q .normal a w := by
  intro listed f ρ XD a w hsz hr I stop
  have hall := allOf listed hsz hr
  have hls : lsOf listed = fun j => j < ops.size := by
   funext j
   apply propext
   exact ⟨fun h => by have := (Array.getElem?_eq_some_iff.1 h).1; omega, hall j⟩
  have hfl : f = ord.length := by
   rcases Nat.lt_or_ge f ord.length with h | h
   ·obtain ⟨i, o, h1, h2⟩ := C.at h
    exact absurd ⟨i, h1, hall i (C.plan.lt i (List.mem_iff_getElem?.2 ⟨f, h1⟩))⟩ (stop h)
   ·have := I.fle; omega
  subst hfl
  rw [hls] at I
  exact hQ ρ XD a w I
 have noneLeft : ∀ (listed : Array Bool), listed.toList.count false = 0 → Region.ready .any ops listed = [] := by
  intro listed hc
  refine List.eq_nil_iff_forall_not_mem.2 fun j hj => ?_
  have h1 := (mem_ready.1 hj).1
  rw [Array.getD_eq_getD_getElem?] at h1
  cases hq : listed[j]? with
  | none => rw [hq] at h1; cases h1
  | some b =>
    rw [hq] at h1
    simp only [Option.getD_some] at h1
    subst h1
    have hm : false ∈ listed.toList := List.mem_iff_getElem?.2 ⟨j, by rw [Array.getElem?_toList]; exact hq⟩
    exact absurd hm (List.count_eq_zero.1 hc)
 intro fuel
 induction fuel with
 | zero =>
   intro listed f ρ XD a w hsz hc I stop
   exact ⟨noneLeft listed hc, fin listed f ρ XD a w hsz (noneLeft listed hc) I stop⟩
 | succ fuel ih =>
   intro listed f ρ XD a w hsz hc I stop
   refine ⟨fun hr => fin listed f ρ XD a w hsz hr I stop, fun i hi => ?_⟩
   obtain ⟨h1, o, ho, h2⟩ := mem_ready.1 hi
   have hlt : i < ops.size := (Array.getElem?_eq_some_iff.1 ho).1
   have hli : listed[i]? = some false := by
    have : listed[i]? = some listed[i] := Array.getElem?_eq_getElem (by omega)
    rw [Array.getD_eq_getD_getElem?, this, Option.getD_some] at h1
    rw [this, h1]
   refine draw_step C hcall I stop ho (fun hl => by rw [show listed[i]? = some true from hl] at hli; cases hli) (fun e he hb => ?_) (hdst i o ho) fun f' ρ' XD' a' w' J hs => ?_
   ·have := h2 e (Array.mem_toList_iff.1 he) hb
    rw [Array.getD_eq_getD_getElem?] at this
    show listed[e.on]? = some true
    cases hq : listed[e.on]? with
    | none => rw [hq] at this; cases this
    | some b => rw [hq] at this; simp only [Option.getD_some] at this; rw [this]
   ·have hls : (fun j => lsOf listed j ∨ j = i) = lsOf (listed.setIfInBounds i true) := by
     funext j
     apply propext
     show (listed[j]? = some true ∨ j = i) ↔ (listed.setIfInBounds i true)[j]? = some true
     rw [Array.getElem?_setIfInBounds]
     by_cases e : i = j
     ·subst e; rw [if_pos rfl, if_pos (by omega)]; simp
     ·rw [if_neg e]
      exact ⟨fun h => h.resolve_right (fun h => e h.symm), .inl⟩
    rw [hls] at J hs
    refine ih _ f' ρ' XD' a' w' (by simpa using hsz) ?_ J hs
    have := count_set (l := listed.toList) (i := i) (by rw [Array.getElem?_toList]; exact hli)
    rw [Array.toList_setIfInBounds]
    omega
theorem draw_ok (hm : P.follows .mixedOrders = true) : DrawOk P V := by
 intro share keep ops al back call id nt r n a ds res X w0 ρ H w T hcall hc hr hT hn hnt hd hD
 unfold compileRegion at hc
 simp only [if_true] at hc
 split at hc
 case isFalse => cases hc
 rename_i hok
 split at hc
 case h_2 => cases hc
 rename_i l m k hs
 injection hc with h1 h2
 subst h1; subst h2
 unfold sRegion at hr
 split at hr
 case h_2 => cases hr
 rename_i L' H' ha
 split at hr
 case h_2 => cases hr
 rename_i T' hb
 injection hr with hr
 subst hr
 generalize heffs : ((List.range ops.toList.length).filter fun i => match ops.toList[i]? with | some o => isEff (compileOp P share o) | none => false) = effs at hok hs
 generalize hord : orderOf (aheadOf ops.toList) effs ops.toList.length = ord at hok hs
 have plan := plan_of hok
 have hdef : Def (entry keep) T [] := fun t x hx => by
  obtain ⟨v, _, h1, _⟩ := hT.mrel t x hx
  exact ⟨v, h1⟩
 obtain ⟨S, hS0, hS, hSm, hSL, hSH, hk⟩ := trace (P := P) (.tmp 0) undef hs ha hdef
 have hget : ∀ i ∈ ord, ((ops.toList[i]?).map fun o => (o, (ord.filter fun e => effs.contains e && ((aheadOf ops.toList).getD i []).contains e).length)).isSome = true := fun i hi => by
  have := plan.lt i hi
  simp [this]
 have hlen : (ord.filterMap fun i => (ops.toList[i]?).map fun o => (o, (ord.filter fun e => effs.contains e && ((aheadOf ops.toList).getD i []).contains e).length)).length = ord.length := filterMap_len hget
 have C : Canon P share ops call T keep ord effs S := by
  refine ⟨plan, fun k i o h1 h2 => ?_, by rw [hS0], by rw [hS0], by rw [hS0], fun i o ho => ?_⟩
  ·refine hS k o _ ?_
   rw [filterMap_get hget, h1]
   simp [h2]
  ·rw [← heffs, List.mem_filter, List.mem_range]
   have hlt : i < ops.toList.length := by
    rw [Array.length_toList]; exact (Array.getElem?_eq_some_iff.1 ho).1
   rw [Array.getElem?_toList, ho]
   exact ⟨fun h => h.2, fun h => ⟨hlt, h⟩⟩
 rw [hlen] at hSm hSL hSH
 refine wpIn_region_any hm ?_
 have hnd : Now P X w0 ρ H { w with drawn := w.drawn + 1 } := hn.drawn _
 have hH0 : (S 0).H = H := by rw [hS0]
 have hlc : ρ.le (ρ.cut (Vec.size H)) := le_cut (Rho.le.refl ρ) hn.dom
 have hno : ∀ k, ¬ Done ord (lsOf (Array.replicate ops.size false)) k := by
  rintro k ⟨i, _, hi⟩
  have : (Array.replicate ops.size false)[i]? = some true := hi
  rw [Array.getElem?_replicate] at this
  split at this <;> cases this
 refine any_sound (X := X) (w0 := w0) (wi := w) (ρ0 := ρ) (sz0 := a.tmps.size) (ds0 := a.defers) C hcall (fun i o ho d hdo => ?_) (fun ρ1 XD a1 w1 I => ?_) ops.size (Array.replicate ops.size false) 0 ρ X a _ (by simp) (by simp) ?_ (fun _ => hno 0)
 ·have := List.all_eq_true.1 hd o (Array.mem_toList_iff.2 (Array.mem_of_getElem? ho))
  rw [hdo] at this
  simp only [Nat.blt_eq] at this
  exact Nat.lt_of_lt_of_le this hnt
 ·-- the end
  have hall : ∀ k, k < ord.length → Done ord (fun j => j < ops.size) k := fun k hk => I.front k hk
  have hnow : Now P X w0 (ρ1.cut (Vec.size H')) H' w1 := by
   have := I.now.less I.xd
   rw [hSH] at this
   exact this
  have hsz : Vec.size H ≤ Vec.size H' := by
   have := C.size (k := 0) (k' := ord.length) (by omega) (Nat.le_refl _)
   rw [hH0, hSH] at this
   exact this
  have hgone : Gone P X w0 ρ H w (ρ1.cut (Vec.size H')) H' w1 := ⟨le_cut I.le0 (fun b p hb => by have := hn.dom b p hb; omega), hnow, hsz, I.heap, fun b p hb => I.names b p (cut_some.1 hb).2⟩
  have hmr : MRel (ρ1.cut (Vec.size H')) m T L' a1.tmps := by
   intro t x hx
   rw [← hSm] at hx
   rcases C.env (Nat.le_refl _) t x hx with ⟨k', h1, h2, h3, h4⟩ | ⟨h1, j, h2, rfl⟩
   ·obtain ⟨v', q1, q2⟩ := I.told k' t (hall k' h1) h2 (fun k'' a1 a2 => h3 k'' a1 a2.lt)
    rw [hSL] at h4
    refine ⟨_, v', h4, q1, q2.mono (cut_le ?_)⟩
    rw [← hSH]
    exact C.size (by omega) (Nat.le_refl _)
   ·obtain ⟨v, v', q1, q2, q3⟩ := I.kept t j h2 (fun k'' a2 => h1 k'' a2.lt)
    refine ⟨v, v', q1, q2, q3.mono (cut_le ?_)⟩
    rw [hH0]
    exact hsz
  subst hk
  refine ⟨rfl, _, hgone, back_rel hT hmr (fun t ht => someOps_find hs t ?_) hb, by rw [I.sizeA]; exact hnt, by rw [I.defs]; exact hD.mono hgone.le⟩
  rw [find_entry]
  cases hq : keep.idxOf? t with
  | none => exact absurd hq ht
  | some i => simp
 ·refine ⟨by omega, fun k hk => by omega, fun j o _ hj => ?_, ?_, fun _ _ h => h, fun k _ hd => absurd hd (hno k), fun k _ _ hd => absurd hd (hno k), fun b p hb => .inl (by rw [hH0]; exact hn.dom b p hb), fun b b' p p' hb _ _ hge => ?_, fun k t hd => absurd hd (hno k), fun t i hi _ => ?_, Rho.le.refl _, Nat.le_refl _, fun b p hb => .inl hb, rfl, rfl⟩
  ·exfalso
   have : (Array.replicate ops.size false)[j]? = some true := hj
   rw [Array.getElem?_replicate] at this
   split at this <;> cases this
  ·rw [hH0]
   exact hnd.rho hlc (fun b p hb => (cut_some.1 hb).2)
  ·have := hn.dom b p hb
   rw [hH0] at hge
   omega
  ·obtain ⟨v, v', q1, q2, q3⟩ := hT t i hi
   exact ⟨v, v', q1, q2, by rw [hH0]; exact q3.mono hlc⟩
end
end Go.Proofs.Ytggaimcopbjdiaa.AM
namespace Go.Proofs.Ytggaimcopbjdiaa.AM
section
variable {V : Type → Type} [Vec V] {E : Env V}
def allOf (w : World) : Nat → Option Obj := fun cb => w.heap[cb]?
theorem calls_of (hE : EnvOk E) {N : Nat} {f : FuncId} {args : List Value} {H H' : AH V} (h : acall E N f args H = some (.bool true, H')) {ρ : Rho} {w : World} {args' : List Value} (hv : VRels ρ args args') (hn : Now E.P (allOf w) w ρ H w) :
  Calls E.P f args'.toArray w (fun e w' => e = .returned (.bool true) ∧ RowKit.Below w.heap.size w w') := by
 have h1 := (acall_sound hE h).2 (allOf w) w ρ w args' hv hn none 0
 refine (callsIn_wide (n := 0)).1 (CallsIn.mono (F := FW none) h1 fun e w' he => ?_)
 obtain ⟨v', rfl, ρ', hd⟩ := he
 refine ⟨by rw [hd.val.bool], hd.now.st.os, hd.now.st.tape, hd.now.st.output, hd.heap, fun k hk => ?_⟩
 have hq : w.heap[k]? = some w.heap[k] := Array.getElem?_eq_getElem hk
 rw [hq]
 exact hd.now.st.frame k _ hq
def noRho : Rho := ⟨fun _ => none, fun _ => none⟩
theorem now_none (P : Program) (X : Nat → Option Obj) (w : World) (H : AH V) (hX : ∀ cb o, X cb = some o → w.heap[cb]? = some o) : Now P X w noRho H w :=
 ⟨⟨rfl, rfl, rfl, Nat.le_refl _, hX, (fun _ _ h => by cases h), (fun _ _ h => by cases h), (fun _ _ _ _ _ h => by cases h), (fun _ _ _ _ h => by cases h)⟩, (fun _ _ h => by cases h)⟩
theorem calls_closed (hE : EnvOk E) {N : Nat} {f : FuncId} (h : (acall E N f [] Vec.emp).map (·.1) = some (.bool true)) (w : World) :
  Calls E.P f #[] w (fun e w' => e = .returned (.bool true) ∧ RowKit.Below w.heap.size w w') := by
 cases hc : acall E N f [] (Vec.emp : AH V) with
 | none => rw [hc] at h; cases h
 | some p =>
   obtain ⟨v, H'⟩ := p
   rw [hc] at h
   simp only [Option.map_some, Option.some.injEq] at h
   subst h
   exact calls_of hE hc .nil (now_none _ _ _ _ fun _ _ h => h)
theorem get_foldl {α : Type} : ∀ (l : List α) (v : V α) (i : Nat), Vec.get (l.foldl Vec.push v) i = if i < Vec.size v then Vec.get v i else l[i - Vec.size v]?
 | [], v, i => by
   by_cases h : i < Vec.size v
   ·rw [if_pos h]; rfl
   ·rw [if_neg h]
    cases hq : Vec.get v i with
    | none => simp [hq]
    | some x => exact absurd (Vec.get_lt v i x hq) h
 | x :: l, v, i => by
   rw [List.foldl_cons, get_foldl l, Vec.size_push, Vec.get_push]
   by_cases h : i < Vec.size v
   ·rw [if_pos (by omega), if_neg (by omega), if_pos h]
   ·rw [if_neg h]
    by_cases h2 : i = Vec.size v
    ·rw [if_pos (by omega), if_pos h2, h2, Nat.sub_self]; rfl
    ·rw [if_neg (by omega), show i - Vec.size v = (i - (Vec.size v + 1)) + 1 by omega, List.getElem?_cons_succ]
theorem get_ofList {α : Type} (l : List α) (i : Nat) : Vec.get (Vec.ofList l : V α) i = l[i]? := by
 unfold Vec.ofList
 rw [get_foldl, Vec.size_emp, if_neg (by omega), Nat.sub_zero]
def OkFrom (P : Program) : Nat → List (Option AFunc) → Prop
 | _, [] => True
 | k, none :: r => OkFrom P (k + 1) r
 | k, some x :: r => (∃ share, compileFn P share k = some x) ∧ OkFrom P (k + 1) r
theorem okFrom_get {P : Program} : ∀ {l : List (Option AFunc)} {k i : Nat} {fn : AFunc}, OkFrom P k l → l[i]? = some (some fn) → ∃ share, compileFn P share (k + i) = some fn
 | [], k, i, fn, _, h => by simp at h
 | none :: r, k, 0, fn, _, h => by simp at h
 | some x :: r, k, 0, fn, ho, h => by
   simp at h
   subst h
   exact ho.1
 | none :: r, k, i + 1, fn, ho, h => by
   have := okFrom_get (k := k + 1) (i := i) (l := r) ho (by simpa using h)
   rwa [show k + 1 + i = k + (i + 1) by omega] at this
 | some x :: r, k, i + 1, fn, ho, h => by
   have := okFrom_get (k := k + 1) (i := i) (l := r) ho.2 (by simpa using h)
   rwa [show k + 1 + i = k + (i + 1) by omega] at this
theorem fn_of {P : Program} {l : List (Option AFunc)} (ho : OkFrom P 0 l) {f : FuncId} {fn : AFunc} (h : (Vec.get (Vec.ofList l : V (Option AFunc)) f).getD none = some fn) : ∃ share, compileFn P share f = some fn := by
 rw [get_ofList] at h
 cases hq : l[f]? with
 | none => rw [hq] at h; cases h
 | some x =>
   rw [hq] at h
   simp only [Option.getD_some] at h
   subst h
   have := okFrom_get ho hq
   rwa [Nat.zero_add] at this
end
end Go.Proofs.Ytggaimcopbjdiaa.AM
namespace Go.Proofs.Ytggaimcopbjdiaa.AM
section
variable {V : Type → Type} [Vec V]
def RLe (r1 r2 : Task V → Option (Res V)) : Prop := ∀ t r, r1 t = some r → r2 t = some r
def CLe (c1 c2 : Value → List Value → AH V → Option (Value × AH V)) : Prop := ∀ f a H x, c1 f a H = some x → c2 f a H = some x
theorem acallV_mono {W : Type → Type} {r1 r2 : Task W → Option (Res W)} (h : RLe r1 r2) : CLe (acallV r1) (acallV r2) := by
 intro fv args H x hx
 unfold acallV at hx ⊢
 split at hx
 ·next f first captured =>
  cases hr : r1 (.call f (first.toList ++ args ++ captured.toList) H) with
  | none => rw [hr] at hx; cases hx
  | some r => rw [hr] at hx; rw [h _ _ hr]; exact hx
 ·next l =>
  cases hr : r1 (.round l args H) with
  | none => rw [hr] at hx; cases hx
  | some r => rw [hr] at hx; rw [h _ _ hr]; exact hx
 ·cases hx
theorem aexec_mono {χ : Type} {P : Program} {c1 c2 : Value → List Value → AH V → Option (Value × AH V)} (h : CLe c1 c2) {op : AOp χ} {ev : χ → Option Value} {H : AH V} {x : Value × AH V} (hx : aexec P c1 op ev H = some x) : aexec P c2 op ev H = some x := by
 cases op <;> try exact hx
 next f args =>
  simp only [aexec, xCall] at hx ⊢
  split at hx
  ·next f' a' e1 e2 => exact h _ _ _ _ hx
  ·cases hx
theorem aops_mono {P : Program} {c1 c2 : Value → List Value → AH V → Option (Value × AH V)} (h : CLe c1 c2) {T : AT} : ∀ {ops : List AOper} {L : List Value} {H : AH V} {x : List Value × AH V}, aops P c1 T ops L H = some x → aops P c2 T ops L H = some x
 | [], L, H, x, hx => hx
 | o :: r, L, H, x, hx => by
   simp only [aops] at hx ⊢
   cases hw : awanted T L o.g with
   | true =>
     rw [hw] at hx
     simp only at hx ⊢
     cases he : aexec P c1 o.op (sev T L) H with
     | none => rw [he] at hx; cases hx
     | some p => rw [he] at hx; rw [aexec_mono h he]; exact aops_mono h hx
   | false => rw [hw] at hx; exact aops_mono h hx
theorem adraw_mono {P : Program} {c1 c2 : Value → List Value → AH V → Option (Value × AH V)} (h : CLe c1 c2) {T : AT} : ∀ {ops : List AOper} {sn : List (AH V)} {L : List Value} {H : AH V} {x : List Value × AH V}, adraw P c1 T ops sn L H = some x → adraw P c2 T ops sn L H = some x
 | [], sn, L, H, x, hx => hx
 | o :: r, sn, L, H, x, hx => by
   simp only [adraw] at hx ⊢
   cases hw : awanted T L o.g with
   | true =>
     rw [hw] at hx
     simp only at hx ⊢
     cases he : aexec P c1 o.op (sev T L) H with
     | none => rw [he] at hx; cases hx
     | some p =>
       rw [he] at hx; rw [aexec_mono h he]
       obtain ⟨v, H'⟩ := p
       simp only at hx ⊢
       cases hb : (bif loadOk T L sn o.lo o.op v then Nat.ble (Vec.size H) (Vec.size H') else false) with
       | true => rw [hb] at hx; exact adraw_mono h hx
       | false => rw [hb] at hx; cases hx
   | false => rw [hw] at hx; exact adraw_mono h hx
theorem astep_mono {E : Env V} {r1 r2 : Task V → Option (Res V)} (h : RLe r1 r2) : RLe (astep E r1) (astep E r2) := by
 intro t r hx
 have go : ∀ {α : Type} (F G : Option (Res V) → Option α) (t : Task V) (y : α), F (r1 t) = some y → F none = none → (∀ z, F (some z) = some y → G (some z) = some y) → G (r2 t) = some y := by
  intro α F G t y h1 h2 h3
  cases hr : r1 t with
  | none => rw [hr, h2] at h1; cases h1
  | some z => rw [hr] at h1; rw [h _ _ hr]; exact h3 _ h1
 cases t with
 | code inR c T H ds =>
   show sCode E r2 inR c T H ds = some r
   replace hx : sCode E r1 inR c T H ds = some r := hx
   cases c <;> try exact hx
   ·next a b =>
    refine go (sSeq r1 inR b) (sSeq r2 inR b) _ _ hx rfl fun z hz => ?_
    obtain ⟨e, T', H', ds', v⟩ := z
    cases e <;> first | exact hz | exact h _ _ hz
   ·next c a b =>
    simp only [sCode, sCond] at hx ⊢
    split at hx
    ·next t e => exact h _ _ hx
    ·cases hx
   ·next id b => exact go (sBlock id) (sBlock id) _ _ hx rfl fun z hz => hz
   ·next b =>
    refine go (sSeq r1 inR (.loop b)) (sSeq r2 inR (.loop b)) _ _ hx rfl fun z hz => ?_
    obtain ⟨e, T', H', ds', v⟩ := z
    cases e <;> first | exact hz | exact h _ _ hz
   ·next b => exact h _ _ hx
   ·next g ps as_ body =>
    simp only [sCode, sRange] at hx ⊢
    split at hx
    ·next f first captured e =>
     exact go (sRangeEnd (Vec.size H + 1) (Vec.size H) T ds) (sRangeEnd (Vec.size H + 1) (Vec.size H) T ds) _ _ hx rfl fun z hz => hz
    ·cases hx
   ·next ops back =>
    simp only [sCode, sRegion] at hx ⊢
    cases ho : aops E.P (acallV r1) T ops [] H with
    | none => rw [ho] at hx; cases hx
    | some p => rw [ho] at hx; rw [aops_mono (acallV_mono h) ho]; exact hx
   ·next ops back =>
    simp only [sCode, sRegion] at hx ⊢
    cases ho : adraw E.P (acallV r1) T ops [H] [] H with
    | none => rw [ho] at hx; cases hx
    | some p => rw [ho] at hx; rw [adraw_mono (acallV_mono h) ho]; exact hx
 | scope inR b cur T H ds =>
   refine go (sScope r1 inR b) (sScope r2 inR b) _ _ hx rfl fun z hz => ?_
   obtain ⟨e, T', H', ds', v⟩ := z
   cases e <;> try exact hz
   next l =>
    simp only [sScope] at hz ⊢
    cases hf : afind b l with
    | none => rw [hf] at hz; exact hz
    | some rest => rw [hf] at hz; exact h _ _ hz
 | call f args H =>
   replace hx : sExt (E.ext f args H) (sCall r1 args H (E.fn f)) = some r := hx
   show sExt (E.ext f args H) (sCall r2 args H (E.fn f)) = some r
   cases he : E.ext f args H with
   | some p => rw [he] at hx; exact hx
   | none =>
     rw [he] at hx
     simp only [sExt, sCall] at hx ⊢
     cases hf : E.fn f with
     | none => rw [hf] at hx; cases hx
     | some fn =>
       rw [hf] at hx
       exact go (sCallEnd fn) (sCallEnd fn) _ _ hx rfl fun z hz => hz
 | round l args H =>
   replace hx : sRound r1 l args H (Vec.get H l) = some r := hx
   show sRound r2 l args H (Vec.get H l) = some r
   simp only [sRound] at hx ⊢
   split at hx
   ·next T ps assign body e =>
    cases hs : setParams T ps args with
    | none => rw [hs] at hx; cases hx
    | some T1 =>
      rw [hs] at hx
      refine go (sRoundMid r1 l body) (sRoundMid r2 l body) _ _ hx rfl fun z hz => ?_
      simp only [sRoundMid] at hz ⊢
      split at hz
      ·next T2 H2 v2 e2 =>
       split at hz
       ·next B eB =>
        exact go (sRoundEnd l) (sRoundEnd l) _ _ hz rfl fun z hz => hz
       ·cases hz
      ·cases hz
   ·cases hx
theorem arun_mono {E : Env V} : ∀ {n m : Nat}, n ≤ m → RLe (arun E n) (arun E m)
 | 0, m, _ => fun t r h => by cases h
 | n + 1, 0, h => by omega
 | n + 1, m + 1, h => astep_mono (arun_mono (E := E) (by omega))
def ARuns (E : Env V) (t : Task V) (Q : Res V → Prop) : Prop := ∃ n r, arun E n t = some r ∧ Q r
def AOps (E : Env V) (T : AT) (ops : List AOper) (L : List Value) (H : AH V) (Q : List Value → AH V → Prop) : Prop := ∃ n L' H', aops E.P (acallV (arun E n)) T ops L H = some (L', H') ∧ Q L' H'
def ADraws (E : Env V) (T : AT) (ops : List AOper) (sn : List (AH V)) (L : List Value) (H : AH V) (Q : List Value → AH V → Prop) : Prop := ∃ n L' H', adraw E.P (acallV (arun E n)) T ops sn L H = some (L', H') ∧ Q L' H'
variable {E : Env V}
theorem ARuns.mono {t : Task V} {Q R : Res V → Prop} (h : ARuns E t Q) (hq : ∀ r, Q r → R r) : ARuns E t R := by
 obtain ⟨n, r, h1, h2⟩ := h
 exact ⟨n, r, h1, hq _ h2⟩
def afterSeq (E : Env V) (inR : Bool) (b : ACode) (Q : Res V → Prop) (r : Res V) : Prop :=
 match r.e with
 | .norm => ARuns E (.code inR b r.T r.H r.ds) Q
 | _ => Q r
theorem runs_sSeq {inR : Bool} {b : ACode} {t t' : Task V} {Q : Res V → Prop} (ht : ∀ rec : Task V → Option (Res V), astep E rec t' = sSeq rec inR b (rec t)) (h : ARuns E t (afterSeq E inR b Q)) : ARuns E t' Q := by
 obtain ⟨n, ⟨e, T, H, ds, v⟩, h1, h2⟩ := h
 cases e
 ·obtain ⟨m, r, h3, h4⟩ := (show ARuns E (.code inR b T H ds) Q from h2)
  refine ⟨max n m + 1, r, ?_, h4⟩
  show astep E (arun E (max n m)) t' = some r
  rw [ht, arun_mono (Nat.le_max_left n m) _ _ h1]
  exact arun_mono (Nat.le_max_right n m) _ _ h3
 all_goals
  refine ⟨n + 1, _, ?_, h2⟩
  show astep E (arun E n) t' = _
  rw [ht, h1]
  rfl
theorem runs_seq {inR : Bool} {a b : ACode} {T : AT} {H : AH V} {ds : List Nat} {Q : Res V → Prop} (h : ARuns E (.code inR a T H ds) (afterSeq E inR b Q)) : ARuns E (.code inR (.seq a b) T H ds) Q := runs_sSeq (fun _ => rfl) h
theorem runs_loop {inR : Bool} {b : ACode} {T : AT} {H : AH V} {ds : List Nat} {Q : Res V → Prop} (h : ARuns E (.code inR b T H ds) (afterSeq E inR (.loop b) Q)) : ARuns E (.code inR (.loop b) T H ds) Q := runs_sSeq (fun _ => rfl) h
theorem runs_step {t t' : Task V} {Q : Res V → Prop} (ht : ∀ rec : Task V → Option (Res V), astep E rec t' = rec t) (h : ARuns E t Q) : ARuns E t' Q := by
 obtain ⟨n, r, h1, h2⟩ := h
 exact ⟨n + 1, r, by show astep E (arun E n) t' = some r; rw [ht]; exact h1, h2⟩
theorem runs_done {t : Task V} {r : Res V} {Q : Res V → Prop} (ht : ∀ rec : Task V → Option (Res V), astep E rec t = some r) (h : Q r) : ARuns E t Q := ⟨1, r, ht _, h⟩
theorem runs_cond {inR : Bool} {c : Src} {a b : ACode} {T : AT} {H : AH V} {ds : List Nat} {Q : Res V → Prop} (t : Bool) (hc : sev T [] c = some (.bool t)) (h : ARuns E (.code inR (bif t then a else b) T H ds) Q) : ARuns E (.code inR (.cond c a b) T H ds) Q :=
 runs_step (fun rec => by show sCond rec inR a b T H ds (sev T [] c) = _; rw [hc]; rfl) h
theorem runs_skip {inR : Bool} {T : AT} {H : AH V} {ds : List Nat} {Q : Res V → Prop} (h : Q ⟨.norm, T, H, ds, undef⟩) : ARuns E (.code inR .skip T H ds) Q := runs_done (fun _ => rfl) h
theorem runs_ret {inR : Bool} {T : AT} {H : AH V} {ds : List Nat} {Q : Res V → Prop} (h : Q ⟨.ret, T, H, ds, undef⟩) : ARuns E (.code inR .ret T H ds) Q := runs_done (fun _ => rfl) h
theorem runs_exit {inR : Bool} {id : Nat} {T : AT} {H : AH V} {ds : List Nat} {Q : Res V → Prop} (h : Q ⟨.exit id, T, H, ds, undef⟩) : ARuns E (.code inR (.exit id) T H ds) Q := runs_done (fun _ => rfl) h
theorem runs_map {t t' : Task V} {Q R : Res V → Prop} {F : Option (Res V) → Option (Res V)} (ht : ∀ rec : Task V → Option (Res V), astep E rec t' = F (rec t)) (h : ARuns E t Q) (hq : ∀ r, Q r → ∃ r', F (some r) = some r' ∧ R r') : ARuns E t' R := by
 obtain ⟨n, r, h1, h2⟩ := h
 obtain ⟨r', h3, h4⟩ := hq r h2
 exact ⟨n + 1, r', by show astep E (arun E n) t' = some r'; rw [ht, h1]; exact h3, h4⟩
def afterBlock (id : Nat) (Q : Res V → Prop) (r : Res V) : Prop :=
 match r.e with
 | .exit i => Q { r with e := bif Nat.beq i id then .norm else .exit i }
 | _ => Q r
theorem runs_block {inR : Bool} {id : Nat} {b : ACode} {T : AT} {H : AH V} {ds : List Nat} {Q : Res V → Prop} (h : ARuns E (.code inR b T H ds) (afterBlock id Q)) : ARuns E (.code inR (.block id b) T H ds) Q := by
 refine runs_map (F := sBlock id) (fun _ => rfl) h ?_
 rintro ⟨e, T, H, ds, v⟩ hq
 cases e with
 | exit i =>
   cases hb : Nat.beq i id with
   | true => exact ⟨⟨.norm, T, H, ds, v⟩, by simp only [sBlock, hb, cond_true], by simpa [afterBlock, hb] using hq⟩
   | false => exact ⟨⟨.exit i, T, H, ds, v⟩, by simp only [sBlock, hb, cond_false], by simpa [afterBlock, hb] using hq⟩
 | norm => exact ⟨_, rfl, hq⟩
 | goto l => exact ⟨_, rfl, hq⟩
 | ret => exact ⟨_, rfl, hq⟩
theorem runs_region {inR : Bool} {ops : List AOper} {back : List (Nat × Src)} {T : AT} {H : AH V} {ds : List Nat} {Q : Res V → Prop} (h : AOps E T ops [] H fun L H' => ∃ T', aback T L back T = some T' ∧ Q ⟨.norm, T', H', ds, undef⟩) : ARuns E (.code inR (.region ops back) T H ds) Q := by
 obtain ⟨n, L, H', h1, T', h2, h3⟩ := h
 refine ⟨n + 1, _, ?_, h3⟩
 show sRegion T back ds (aops E.P (acallV (arun E n)) T ops [] H) = _
 rw [h1]
 simp only [sRegion, h2]
theorem runs_draw {inR : Bool} {ops : List AOper} {back : List (Nat × Src)} {T : AT} {H : AH V} {ds : List Nat} {Q : Res V → Prop} (h : ADraws E T ops [H] [] H fun L H' => ∃ T', aback T L back T = some T' ∧ Q ⟨.norm, T', H', ds, undef⟩) : ARuns E (.code inR (.draw ops back) T H ds) Q := by
 obtain ⟨n, L, H', h1, T', h2, h3⟩ := h
 refine ⟨n + 1, _, ?_, h3⟩
 show sRegion T back ds (adraw E.P (acallV (arun E n)) T ops [H] [] H) = _
 rw [h1]
 simp only [sRegion, h2]
theorem ops_nil {T : AT} {L : List Value} {H : AH V} {Q : List Value → AH V → Prop} (h : Q L H) : AOps E T [] L H Q := ⟨0, L, H, rfl, h⟩
def ADoes (E : Env V) (T L : List Value) (op : AOp Src) (H : AH V) (Q : Value → AH V → Prop) : Prop := ∃ n v H', aexec E.P (acallV (arun E n)) op (sev T L) H = some (v, H') ∧ Q v H'
theorem ops_cons {T : AT} {o : AOper} {ops : List AOper} {L : List Value} {H : AH V} {Q : List Value → AH V → Prop} (hw : awanted T L o.g = true) (h : ADoes E T L o.op H fun v H' => AOps E T ops (v :: L) H' Q) : AOps E T (o :: ops) L H Q := by
 obtain ⟨n, v, H1, h1, m, L', H', h2, h3⟩ := h
 refine ⟨max n m, L', H', ?_, h3⟩
 simp only [aops, hw]
 rw [aexec_mono (acallV_mono (arun_mono (Nat.le_max_left n m))) h1]
 exact aops_mono (acallV_mono (arun_mono (Nat.le_max_right n m))) h2
theorem ops_not {T : AT} {o : AOper} {ops : List AOper} {L : List Value} {H : AH V} {Q : List Value → AH V → Prop} (hw : awanted T L o.g = false) (h : AOps E T ops (undef :: L) H Q) : AOps E T (o :: ops) L H Q := by
 obtain ⟨m, L', H', h2, h3⟩ := h
 refine ⟨m, L', H', ?_, h3⟩
 simp only [aops, hw]
 exact h2
theorem does_op {T L : List Value} {op : AOp Src} {H : AH V} {Q : Value → AH V → Prop} (v : Value) (H' : AH V) (h : aexec E.P (fun _ _ _ => none) op (sev T L) H = some (v, H')) (hq : Q v H') : ADoes E T L op H Q :=
 ⟨0, v, H', aexec_mono (fun _ _ _ _ h => by cases h) h, hq⟩
theorem does_call {T L : List Value} {f : Src} {args : List Src} {H : AH V} {Q : Value → AH V → Prop} {g : FuncId} {first captured : Array Value} {vs : List Value} (hf : sev T L f = some (.func (.func g) first captured)) (ha : evs (sev T L) args = some vs)
  (h : ARuns E (.call g (first.toList ++ vs ++ captured.toList) H) fun r => Q r.v r.H) : ADoes E T L (.call f args) H Q := by
 obtain ⟨n, ⟨e, T', H', ds, v⟩, h1, h2⟩ := h
 refine ⟨n, v, H', ?_, h2⟩
 simp only [aexec, xCall, hf, ha, acallV, h1]
theorem draws_nil {T : AT} {sn : List (AH V)} {L : List Value} {H : AH V} {Q : List Value → AH V → Prop} (h : Q L H) : ADraws E T [] sn L H Q := ⟨0, L, H, rfl, h⟩
theorem draws_cons {T : AT} {o : AOper} {ops : List AOper} {sn : List (AH V)} {L : List Value} {H : AH V} {Q : List Value → AH V → Prop} (hw : awanted T L o.g = true) (h : ADoes E T L o.op H fun v H' => loadOk T L sn o.lo o.op v = true ∧ Vec.size H ≤ Vec.size H' ∧ ADraws E T ops (bif isEff o.op then H' :: sn else sn) (v :: L) H' Q) : ADraws E T (o :: ops) sn L H Q := by
 obtain ⟨n, v, H1, h1, hl, hs, m, L', H', h2, h3⟩ := h
 refine ⟨max n m, L', H', ?_, h3⟩
 simp only [adraw, hw]
 rw [aexec_mono (acallV_mono (arun_mono (Nat.le_max_left n m))) h1]
 simp only [hl, cond_true, ble_t hs]
 exact adraw_mono (acallV_mono (arun_mono (Nat.le_max_right n m))) h2
theorem draws_not {T : AT} {o : AOper} {ops : List AOper} {sn : List (AH V)} {L : List Value} {H : AH V} {Q : List Value → AH V → Prop} (hw : awanted T L o.g = false) (h : ADraws E T ops (bif isEff o.op then H :: sn else sn) (undef :: L) H Q) : ADraws E T (o :: ops) sn L H Q := by
 obtain ⟨m, L', H', h2, h3⟩ := h
 refine ⟨m, L', H', ?_, h3⟩
 simp only [adraw, hw]
 exact h2
theorem runs_call {f : FuncId} {fn : AFunc} {args : List Value} {H : AH V} {Q : Res V → Prop} (hx : E.ext f args H = none) (hf : E.fn f = some fn)
  (h : ARuns E (.code false fn.body (fn.keep.map fun t => (args[t]?).getD undef) H []) fun r => (r.e = .norm ∨ r.e = .ret) ∧ ∃ H' vs, shut r.H r.ds = some H' ∧ ares r.T H' fn.res = some vs ∧ Q ⟨.norm, [], H', [], pack vs⟩) : ARuns E (.call f args H) Q := by
 refine runs_map (F := sCallEnd fn) (fun rec => ?_) h ?_
 ·show sExt (E.ext f args H) (sCall rec args H (E.fn f)) = _
  rw [hx, hf]; rfl
 ·rintro ⟨e, T, H', ds, v⟩ ⟨he, H2, vs, h1, h2, h3⟩
  refine ⟨_, ?_, h3⟩
  rcases he with rfl | rfl <;> simp only [sCallEnd, h1, sRet, h2]
theorem acall_of_runs {f : FuncId} {args : List Value} {H : AH V} {Q : Value → AH V → Prop} (h : ARuns E (.call f args H) fun r => Q r.v r.H) : ∃ N v H', acall E N f args H = some (v, H') ∧ Q v H' := by
 obtain ⟨n, ⟨e, T, H', ds, v⟩, h1, h2⟩ := h
 exact ⟨n, v, H', by simp only [acall, h1], h2⟩
end
end Go.Proofs.Ytggaimcopbjdiaa.AM
namespace Go.Proofs.Ytggaimcopbjdiaa.AM
section
variable {P : Program} {X : Nat → Option Obj} {w0 w w' : World} {ρ : Rho} {h : Nat → Blk}
theorem St.grown (s : St P X w0 ρ h w) (ho : w'.os = w.os) (ht : w'.tape = w.tape) (hp : w'.output = w.output) (hs : w.heap.size ≤ w'.heap.size) (hh : ∀ k, k < w.heap.size → w'.heap[k]? = w.heap[k]?) : St P X w0 ρ h w' where
 os := ho.trans s.os
 tape := ht.trans s.tape
 output := hp.trans s.output
 size := Nat.le_trans s.size hs
 frame cb o hx := by
  have h1 := s.frame cb o hx
  rw [hh cb (Array.getElem?_eq_some_iff.1 h1).1]
  exact h1
 dom b p hb := Nat.lt_of_lt_of_le (s.dom b p hb) hs
 blk b p hb := (s.blk b p hb).heap p (hh _ (s.dom b p hb))
 sep := s.sep
 lim b p cs lo hb hc := by
  rw [hh _ (s.dom b p hb)]
  exact s.lim b p cs lo hb hc
variable {V : Type → Type} [Vec V] {H : AH V}
theorem Now.grown (s : Now P X w0 ρ H w) (ho : w'.os = w.os) (ht : w'.tape = w.tape) (hp : w'.output = w.output) (hs : w.heap.size ≤ w'.heap.size) (hh : ∀ k, k < w.heap.size → w'.heap[k]? = w.heap[k]?) : Now P X w0 ρ H w' :=
 ⟨s.st.grown ho ht hp hs hh, s.dom⟩
theorem closed_ok {U : Type → Type} [Vec U] {E : Env U} (hE : EnvOk E) {N : Nat} {f : FuncId} {v : Value} (h : (acall E N f [] Vec.emp).map (·.1) = some v) (hv : flat v = true) (H : AH V) : CallsOk E.P f [] H v H := by
 cases hc : acall E N f [] (Vec.emp : AH U) with
 | none => rw [hc] at h; cases h
 | some p =>
   obtain ⟨v1, H1⟩ := p
   rw [hc] at h
   simp only [Option.map_some, Option.some.injEq] at h
   subst h
   obtain ⟨h1, h2⟩ := acall_sound hE hc
   refine ⟨h1, fun X w0 ρ w args' hvs hn r n => ?_⟩
   cases hvs
   refine CallsIn.mono (h2 (allOf w) w noRho w [] .nil (now_none _ _ _ _ fun _ _ h => h) r n) fun e w' he => ?_
   obtain ⟨v', rfl, ρ', hd⟩ := he
   have hv' : v' = v1 := hd.val.of_flat hv
   subst hv'
   refine ⟨_, rfl, ρ, Rho.le.refl _, hn.grown hd.now.st.os hd.now.st.tape hd.now.st.output hd.heap fun k hk => ?_, .flat hv, Nat.le_refl _, hd.heap, names_same⟩
   have hq : w.heap[k]? = some w.heap[k] := Array.getElem?_eq_getElem hk
   rw [hq]
   exact hd.now.st.frame k _ hq
end
end Go.Proofs.Ytggaimcopbjdiaa.AM
namespace Go.Proofs.Ytggaimcopbjdiaa.AM
section
variable {V : Type → Type} [Vec V] {E : Env V} {T : AT} {L : List Value} {H H' H'' : AH V} {Q : Value → AH V → Prop}
theorem get_anew (H : AH V) (cs : List Value) (j : Nat) : Vec.get (anew H cs) j = if j = Vec.size H then some (.arr cs true 0) else Vec.get H j := Vec.get_push ..
theorem get_anew_lt {cs : List Value} {j : Nat} (h : j < Vec.size H) : Vec.get (anew H cs) j = Vec.get H j := by rw [get_anew, if_neg (by omega)]
theorem get_anew_same (H : AH V) (cs : List Value) : Vec.get (anew H cs) (Vec.size H) = some (.arr cs true 0) := by rw [get_anew, if_pos rfl]
theorem get_set_same {b : Nat} {B : Blk} (h : b < Vec.size H) : Vec.get (Vec.set H b B) b = some B := by rw [Vec.get_set, if_pos ⟨rfl, h⟩]
theorem get_set_ne {b j : Nat} {B : Blk} (h : b ≠ j) : Vec.get (Vec.set H b B) j = Vec.get H j := by rw [Vec.get_set, if_neg (fun x => h x.1)]
structure Keeps (H H' : AH V) : Prop where
 size : Vec.size H ≤ Vec.size H'
 get : ∀ j, j < Vec.size H → Vec.get H' j = Vec.get H j
theorem Keeps.refl (H : AH V) : Keeps H H := ⟨Nat.le_refl _, fun _ _ => rfl⟩
theorem Keeps.trans (a : Keeps H H') (b : Keeps H' H'') : Keeps H H'' := ⟨Nat.le_trans a.size b.size, fun j h => (b.get j (Nat.lt_of_lt_of_le h a.size)).trans (a.get j h)⟩
theorem Keeps.anew (a : Keeps H H') (cs : List Value) : Keeps H (anew H' cs) := ⟨by rw [size_anew]; exact Nat.le_succ_of_le a.size, fun j h => by rw [get_anew_lt (Nat.lt_of_lt_of_le h a.size)]; exact a.get j h⟩
theorem Keeps.set (a : Keeps H H') {b : Nat} (B : Blk) (hb : Vec.size H ≤ b) : Keeps H (Vec.set H' b B) := ⟨by rw [Vec.size_set]; exact a.size, fun j h => by rw [get_set_ne (by omega)]; exact a.get j h⟩
theorem Keeps.some (a : Keeps H H') {b : Nat} {B : Blk} (h : Vec.get H b = some B) : Vec.get H' b = some B := by rw [a.get b (Vec.get_lt _ _ _ h)]; exact h
theorem add_none (b o n : Nat) : (⟨b, o, none⟩ : Addr).add n = ⟨b, o + n, none⟩ := by
 unfold Addr.add
 split
 ·next h => subst h; rfl
 ·rfl
def nilish (v : Value) : Prop := v = .slice none 0 0 ∨ ∃ b o s ce, v = .slice (some ⟨b, o, some s⟩) 0 ce
theorem nilish.eq {v : Value} (h : nilish v) : ∃ a ce, v = .slice a 0 ce := by
 rcases h with rfl | ⟨b, o, s, ce, rfl⟩
 ·exact ⟨_, _, rfl⟩
 ·exact ⟨_, _, rfl⟩
theorem nilish.src {v : Value} (h : nilish v) (size : Nat) : asrc H size 0 v = some [] := by
 rcases h with rfl | ⟨b, o, s, ce, rfl⟩ <;> rfl
def RowOf (H : AH V) (v : Value) (cs : List Value) : Prop :=
 (nilish v ∧ cs = []) ∨ ∃ b off ce blk w lo, v = .slice (some ⟨b, off, none⟩) cs.length ce ∧ Vec.get H b = some (.arr blk w lo) ∧ off + cs.length ≤ blk.length ∧ (blk.drop off).take cs.length = cs
theorem RowOf.ext {v : Value} {cs : List Value} (h : RowOf H v cs) (he : Keeps H H') : RowOf H' v cs := by
 rcases h with h | ⟨b, off, ce, blk, w, lo, h1, h2, h3⟩
 ·exact .inl h
 ·exact .inr ⟨b, off, ce, blk, w, lo, h1, he.some h2, h3⟩
theorem RowOf.len {v : Value} {cs : List Value} (h : RowOf H v cs) : ∃ a ce, v = .slice a cs.length ce := by
 rcases h with ⟨h, rfl⟩ | ⟨b, off, ce, blk, w, lo, rfl, _⟩
 ·obtain ⟨a, ce, rfl⟩ := h.eq; exact ⟨_, _, rfl⟩
 ·exact ⟨_, _, rfl⟩
theorem RowOf.at {v : Value} {cs : List Value} (h : RowOf H v cs) {i : Nat} (hi : i < cs.length) : ∃ b off ce blk w lo, v = .slice (some ⟨b, off, none⟩) cs.length ce ∧ Vec.get H b = some (.arr blk w lo) ∧ blk[off + i * 1]? = some cs[i] := by
 rcases h with ⟨_, rfl⟩ | ⟨b, off, ce, blk, w, lo, rfl, h2, h3, h4⟩
 ·simp at hi
 ·refine ⟨b, off, ce, blk, w, lo, rfl, h2, ?_⟩
  have : cs[i]? = some cs[i] := List.getElem?_eq_getElem hi
  rw [← this]
  conv => rhs; rw [← h4]
  rw [List.getElem?_take, if_pos hi, List.getElem?_drop, Nat.mul_one]
theorem RowOf.src {v : Value} {cs : List Value} (h : RowOf H v cs) : asrc H 1 cs.length v = some cs := by
 rcases h with ⟨h, rfl⟩ | ⟨b, off, ce, blk, w, lo, rfl, h2, h3, h4⟩
 ·exact h.src 1
 ·simp only [asrc, arow, h2, Nat.mul_one]
  rw [if_pos h3, h4]
theorem RowOf.alen {v : Value} {cs : List Value} (h : RowOf H v cs) : alen v = some cs.length := by
 obtain ⟨a, ce, rfl⟩ := h.len; rfl
theorem aw64 {n : Int} (h1 : -9223372036854775808 ≤ n) (h2 : n ≤ 9223372036854775807) : aw .i64 n = n := by
 simp only [aw]; omega
def Acc (H : AH V) (base : Nat) (v : Value) (cs : List Value) : Prop :=
 (v = .slice none 0 0 ∧ cs = []) ∨ ∃ b, base ≤ b ∧ v = .slice (some ⟨b, 0, none⟩) cs.length (2 * cs.length) ∧ 0 < cs.length ∧ Vec.get H b = some (.arr cs true 0)
theorem Acc.row {base : Nat} {v : Value} {cs : List Value} (h : Acc H base v cs) : RowOf H v cs := by
 rcases h with ⟨rfl, h⟩ | ⟨b, h1, rfl, h2, h3⟩
 ·exact .inl ⟨.inl rfl, h⟩
 ·exact .inr ⟨b, 0, _, _, _, _, rfl, h3, by omega, by simp⟩
theorem Acc.keep {base : Nat} {v : Value} {cs : List Value} (h : Acc H base v cs) (hk : ∀ j, base ≤ j → j < Vec.size H → Vec.get H' j = Vec.get H j) : Acc H' base v cs := by
 rcases h with h | ⟨b, h1, rfl, h2, h3⟩
 ·exact .inl h
 ·exact .inr ⟨b, h1, rfl, h2, by rw [hk b h1 (Vec.get_lt _ _ _ h3)]; exact h3⟩
theorem Acc.flat {base : Nat} {v : Value} {cs : List Value} (h : Acc H base v cs) : oneCell v = true ∧ veq v v = true := by
 rcases h with ⟨rfl, _⟩ | ⟨b, h1, rfl, h2, h3⟩
 ·exact ⟨rfl, rfl⟩
 ·exact ⟨rfl, by simp [veq, veq1]⟩
theorem veq_slice (a : Option Addr) (n c : Nat) : veq (.slice a n c) (.slice a n c) = true := by simp [veq, veq1]
theorem loadOk_of {sn : List (AH V)} {lo : Nat} {n : Option Nat} {a : Src} {p v : Value} (ha : sev T L a = some p) (hv : veq v v = true) (h : ∀ K ∈ (sn.drop 1).take (sn.length - 1 - lo), aload K n p = some v) : loadOk T L sn lo (.load n a) v = true := by
 simp only [loadOk, ha, stable, List.all_eq_true]
 intro K hK
 rw [h K hK]
 exact hv
theorem aload_of {K : AH V} {b off : Nat} {cs : List Value} {w : Bool} {lo : Nat} {n : Option Nat} {v : Value} (hg : Vec.get K b = some (.arr cs w lo)) (hc : acells cs n off = some v) : aload K n (.pointer (some ⟨b, off, none⟩)) = some v := by
 simp only [aload, arow, hg, hc]
theorem RowOf.slice {v : Value} {cs : List Value} (h : RowOf H v cs) : veq v v = true ∧ oneCell v = true := by
 obtain ⟨a, ce, rfl⟩ := h.len
 exact ⟨veq_slice _ _ _, rfl⟩
end
end Go.Proofs.Ytggaimcopbjdiaa.AM
namespace Go.Proofs.Ytggaimcopbjdiaa.AM
def isArr : Option Blk → Bool
 | some (.arr _ _ _) => true
 | _ => false
section
variable {U : Type → Type} [Vec U] {V : Type → Type} [Vec V] {P : Program} {X : Nat → Option Obj} {w0 w w' : World} {ρ : Rho} {H : AH V} {H0 : AH U}
def in1 (H0 : AH U) : Value → Bool
 | .slice (some ⟨b, _, none⟩) _ _ => isArr (Vec.get H0 b)
 | .pointer (some ⟨b, _, none⟩) => isArr (Vec.get H0 b)
 | v => flat1 v
def inB (H0 : AH U) : Value → Bool
 | .agg cs => cs.toList.all (in1 H0)
 | v => in1 H0 v
def Rho.only (ρ : Rho) (H0 : AH U) : Rho := ⟨fun b => if isArr (Vec.get H0 b) = true then ρ b else none, fun _ => none⟩
theorem Rho.only_some {b : Nat} {p : Nat × Nat} (h : ρ.only H0 b = some p) : isArr (Vec.get H0 b) = true ∧ ρ b = some p := by
 have h' : (if isArr (Vec.get H0 b) = true then ρ b else none) = some p := h
 split at h'
 ·next e => exact ⟨e, h'⟩
 ·cases h'
theorem Rho.only_of {b : Nat} {p : Nat × Nat} (ha : isArr (Vec.get H0 b) = true) (h : ρ b = some p) : ρ.only H0 b = some p := by
 show (if isArr (Vec.get H0 b) = true then ρ b else none) = some p
 rw [if_pos ha]; exact h
theorem VRel.only1 {v v' : Value} (h : VRel ρ v v') (hi : in1 H0 v = true) : VRel (ρ.only H0) v v' := by
 cases h with
 | flat h => exact .flat h
 | ptr h => exact .ptr (Rho.only_of hi h)
 | sl h hc he hx hl => exact .sl (Rho.only_of hi h) hc he hx (fun _ _ L sz hL => by cases hL)
 | slz h he hx => exact .slz (Rho.only_of hi h) he hx
 | wild _ _ => simp [in1, flat1] at hi
 | que _ _ _ _ => simp [in1, flat1] at hi
 | quez _ => simp [in1, flat1] at hi
 | fn _ _ => simp [in1, flat1] at hi
 | yld _ => simp [in1, flat1] at hi
 | agg _ => simp [in1, flat1] at hi
 | tup _ => simp [in1, flat1] at hi
theorem VRels.only1 {l l' : List Value} (h : VRels ρ l l') (hi : l.all (in1 H0) = true) : VRels (ρ.only H0) l l' := by
 induction l generalizing l' with
 | nil => cases h; exact .nil
 | cons v l ih =>
   cases h with
   | cons x t =>
     simp only [List.all_cons, Bool.and_eq_true] at hi
     exact .cons (x.only1 hi.1) (ih t hi.2)
theorem VRel.onlyB {v v' : Value} (h : VRel ρ v v') (hi : inB H0 v = true) : VRel (ρ.only H0) v v' := by
 by_cases hg : ∃ cs, v = .agg cs
 ·obtain ⟨cs, rfl⟩ := hg
  cases h with
  | flat h => exact .flat h
  | agg h => exact .agg (h.only1 hi)
 ·refine h.only1 ?_
  unfold inB at hi
  split at hi
  ·next cs => exact absurd ⟨cs, rfl⟩ hg
  ·exact hi
theorem VRels.onlyB {l l' : List Value} (h : VRels ρ l l') (hi : l.all (inB H0) = true) : VRels (ρ.only H0) l l' := by
 induction l generalizing l' with
 | nil => cases h; exact .nil
 | cons v l ih =>
   cases h with
   | cons x t =>
     simp only [List.all_cons, Bool.and_eq_true] at hi
     exact .cons (x.onlyB hi.1) (ih t hi.2)
def Holds (H0 : AH U) (H : AH V) : Prop := ∀ b B, Vec.get H0 b = some B → B = .dead ∨ ∃ cs wr lo, B = .arr cs false 0 ∧ cs.all flat1 = true ∧ Vec.get H b = some (.arr cs wr lo)
theorem Holds.arr (h : Holds H0 H) {b : Nat} (hb : isArr (Vec.get H0 b) = true) : ∃ cs wr lo, Vec.get H0 b = some (.arr cs false 0) ∧ cs.all flat1 = true ∧ Vec.get H b = some (.arr cs wr lo) := by
 cases hq : Vec.get H0 b with
 | none => rw [hq] at hb; cases hb
 | some B =>
   rcases h b B hq with rfl | ⟨cs, wr, lo, rfl, h1, h2⟩
   ·rw [hq] at hb; cases hb
   ·exact ⟨cs, wr, lo, rfl, h1, h2⟩
theorem Now.only (s : Now P X w0 ρ H w) (h0 : Holds H0 H) : Now P (allOf w) w (ρ.only H0) H0 w := by
 refine ⟨⟨rfl, rfl, rfl, Nat.le_refl _, fun _ _ h => h, ?_, ?_, ?_, ?_⟩, ?_⟩
 ·intro b p hb; exact s.st.dom b p (Rho.only_some hb).2
 ·intro b p hb
  obtain ⟨ha, hb'⟩ := Rho.only_some hb
  obtain ⟨cs, wr, lo, h1, h2, h3⟩ := h0.arr ha
  rw [view_some h1]
  have hr := s.st.blk b p hb'
  rw [view_some h3] at hr
  obtain ⟨c, e, fr, r1, r2, r3, _⟩ := hr
  refine ⟨c, e, fr, r1, r2, fun i v hv => ?_, fun h => by cases h⟩
  obtain ⟨v', q1, q2⟩ := r3 i v hv
  have hf : flat1 v = true := List.all_eq_true.1 h2 v (List.mem_of_getElem? hv)
  rw [q2.of_flat1 hf] at q1
  exact ⟨v, q1, .flat (flat_of_flat1 hf)⟩
 ·intro b b' p p' _ hb _ _
  obtain ⟨cs, wr, lo, h1, _⟩ := h0.arr (Rho.only_some hb).1
  rw [view_some h1]
  trivial
 ·intro b p cs lo hb hv
  obtain ⟨cs', wr, lo', h1, _⟩ := h0.arr (Rho.only_some hb).1
  rw [view_some h1] at hv
  cases hv
 ·intro b p hb
  obtain ⟨cs, wr, lo, h1, _⟩ := h0.arr (Rho.only_some hb).1
  exact Vec.get_lt _ _ _ h1
def plain : Value → Bool
 | .tuple vs => vs.toList.all flat1
 | v => flat v
theorem plain_same {v v' : Value} (h : VRel ρ v v') (hp : plain v = true) : v' = v ∧ ∀ r : Rho, VRel r v v := by
 by_cases hg : ∃ vs, v = .tuple vs
 ·obtain ⟨vs, rfl⟩ := hg
  have hp' : vs.toList.all flat1 = true := hp
  have hf : ∀ r : Rho, VRels r vs.toList vs.toList := fun r => VRels.flat fun v hv => flat_of_flat1 (List.all_eq_true.1 hp' v hv)
  cases h with
  | flat _ => exact ⟨rfl, fun r => .tup (hf r)⟩
  | tup h => exact ⟨congrArg Value.tuple (Array.ext' (h.of_flat1 hp')), fun r => .tup (hf r)⟩
 ·have hf : flat v = true := by
   unfold plain at hp
   split at hp
   ·next vs => exact absurd ⟨vs, rfl⟩ hg
   ·exact hp
  exact ⟨h.of_flat hf, fun r => .flat hf⟩
variable {E : Env U} {N : Nat} {f : FuncId} {args : List Value} {v : Value} {H1 : AH U}
theorem memo_plain (hE : EnvOk E) (h : acall E N f args H0 = some (v, H1)) (hv : plain v = true) (hi : args.all (inB H0) = true) (h0 : Holds H0 H) : CallsOk E.P f args H v H := by
 obtain ⟨h1, h2⟩ := acall_sound hE h
 refine ⟨h1, fun X w0 ρ w args' hvs hn r n => ?_⟩
 refine CallsIn.mono (h2 (allOf w) w (ρ.only H0) w args' (hvs.onlyB hi) (hn.only h0) r n) fun e w' he => ?_
 obtain ⟨v', rfl, ρ', hd⟩ := he
 obtain ⟨rfl, hs⟩ := plain_same hd.val hv
 refine ⟨_, rfl, ρ, Rho.le.refl _, hn.grown hd.now.st.os hd.now.st.tape hd.now.st.output hd.heap fun k hk => ?_, hs ρ, Nat.le_refl _, hd.heap, names_same⟩
 have hq : w.heap[k]? = some w.heap[k] := Array.getElem?_eq_getElem hk
 rw [hq]
 exact hd.now.st.frame k _ hq
theorem view_anew_same (H : AH V) (cs : List Value) : view (anew H cs) (Vec.size H) = .arr cs true 0 := by
 unfold anew; rw [view_push]; exact setB_same _ _ _
theorem view_anew_ne {cs : List Value} {b : Nat} (h : b ≠ Vec.size H) : view (anew H cs) b = view H b := by
 unfold anew; rw [view_push]; exact setB_ne _ _ h
theorem memo_row (hE : EnvOk E) {b1 o k ce : Nat} {cs : List Value} (h : acall E N f args H0 = some (.slice (some ⟨b1, o, none⟩) k ce, H1)) (hb1 : Vec.size H0 ≤ b1) (hcs : Vec.get H1 b1 = some (.arr cs true 0)) (hf : cs.all flat1 = true) (hi : args.all (inB H0) = true) (h0 : Holds H0 H) :
  CallsOk E.P f args H (.slice (some ⟨Vec.size H, o, none⟩) k ce) (anew H cs) := by
 obtain ⟨h1, h2⟩ := acall_sound hE h
 refine ⟨h1, fun X w0 ρ w args' hvs hn r n => ?_⟩
 refine CallsIn.mono (h2 (allOf w) w (ρ.only H0) w args' (hvs.onlyB hi) (hn.only h0) r n) fun e w' he => ?_
 obtain ⟨v', rfl, ρ', hd⟩ := he
 have hn' : Now E.P X w0 ρ H w' := hn.grown hd.now.st.os hd.now.st.tape hd.now.st.output hd.heap fun k hk => by
  have hq : w.heap[k]? = some w.heap[k] := Array.getElem?_eq_getElem hk
  rw [hq]
  exact hd.now.st.frame k _ hq
 have key : ∃ cb co, ρ' b1 = some (cb, co) ∧ (ρ' b1 = some (cb, co) → ∀ r : Rho, r (Vec.size H) = some (cb, co) → r.lim (Vec.size H) = ρ'.lim b1 → VRel r (.slice (some ⟨Vec.size H, o, none⟩) k ce) v') := by
  have hval := hd.val
  generalize hs : Value.slice (some ⟨b1, o, none⟩) k ce = s at hval
  cases hval with
  | flat h => subst hs; simp [Go.Proofs.Ytggaimcopbjdiaa.AM.flat, flat1] at h
  | sl hh hc he hx hl =>
    cases hs
    exact ⟨_, _, hh, fun _ r hr hl' => .sl hr hc he hx (by rw [hl']; exact hl)⟩
  | slz hh he hx =>
    cases hs
    exact ⟨_, _, hh, fun _ r hr hl' => .slz hr he hx⟩
  | ptr _ => cases hs
  | wild _ _ => cases hs
  | que _ _ _ _ => cases hs
  | quez _ => cases hs
  | fn _ _ => cases hs
  | yld _ => cases hs
  | agg _ => cases hs
  | tup _ => cases hs
 obtain ⟨cb, co, hρ, hval⟩ := key
 have hnone : allOf w cb = none := by
  rcases hd.names b1 _ hρ with h | h
  ·have := (hn.only h0).dom _ _ h
   omega
  ·exact h
 have hge : w.heap.size ≤ cb := by
  have h' : w.heap[cb]? = none := hnone
  exact Array.getElem?_eq_none_iff.1 h'
 have hX : X cb = none := by
  cases hx : X cb with
  | none => rfl
  | some ob =>
    have := hn.st.frame cb ob hx
    have h' : w.heap[cb]? = none := hnone
    rw [h'] at this; cases this
 have hfree : ρ (Vec.size H) = none := hn.fresh
 have hblk : ∀ b, b ≠ Vec.size H → view (anew H cs) b = view H b := fun b hb => view_anew_ne hb
 have hlt : ∀ b p, ρ b = some p → p.1 < w.heap.size := fun b p hb => hn.st.dom b p hb
 refine ⟨_, rfl, ρ.upd (Vec.size H) (cb, co) (ρ'.lim b1), Rho.le_upd _ _ hfree, ⟨⟨hn'.st.os, hn'.st.tape, hn'.st.output, hn'.st.size, hn'.st.frame, ?_, ?_, ?_, ?_⟩, ?_⟩, hval hρ _ (Rho.upd_same _ _ _ _) (Rho.lim_same _ _ _ _), by rw [size_anew]; omega, hd.heap, names_upd hX⟩
 ·intro b p hb
  by_cases e : b = Vec.size H
  ·subst e; rw [Rho.upd_same] at hb; cases hb; exact hd.now.st.dom b1 _ hρ
  ·rw [Rho.upd_ne ρ _ _ e] at hb; exact hn'.st.dom b p hb
 ·intro b p hb
  by_cases e : b = Vec.size H
  ·subst e; rw [Rho.upd_same] at hb; cases hb
   rw [view_anew_same]
   have hr := hd.now.st.blk b1 _ hρ
   rw [view_some hcs] at hr
   obtain ⟨c, e, fr, r1, r2, r3, r4⟩ := hr
   refine ⟨c, e, fr, r1, r2, fun i v hv => ?_, fun _ => ⟨hX, (r4 rfl).2⟩⟩
   obtain ⟨v', q1, q2⟩ := r3 i v hv
   have hf' : flat1 v = true := List.all_eq_true.1 hf v (List.mem_of_getElem? hv)
   rw [q2.of_flat1 hf'] at q1
   exact ⟨v, q1, .flat (flat_of_flat1 hf')⟩
  ·rw [Rho.upd_ne ρ _ _ e] at hb
   rw [hblk b e]
   exact (hn'.st.blk b p hb).mono (Rho.le_upd _ _ hfree)
 ·intro b b' p p' hne hb hb' hq
  by_cases e : b = Vec.size H
  ·subst e; rw [Rho.upd_same] at hb; cases hb
   rw [Rho.upd_ne ρ _ _ (Ne.symm hne)] at hb'
   have := hlt b' p' hb'
   simp only at hq; omega
  ·rw [Rho.upd_ne ρ _ _ e] at hb
   by_cases e' : b' = Vec.size H
   ·subst e'; rw [Rho.upd_same] at hb'; cases hb'
    have := hlt b p hb
    simp only at hq; omega
   ·rw [Rho.upd_ne ρ _ _ e'] at hb'
    rw [hblk b e, hblk b' e']
    exact hn'.st.sep b b' p p' hne hb hb' hq
 ·intro b p cs' lo hb hv
  by_cases e : b = Vec.size H
  ·subst e; rw [Rho.upd_same] at hb; cases hb
   rw [view_anew_same] at hv
   cases hv
   rw [Rho.lim_same]
   exact hd.now.st.lim b1 _ _ _ hρ (view_some hcs)
  ·rw [Rho.upd_ne ρ _ _ e] at hb
   rw [hblk b e] at hv
   rw [Rho.lim_ne ρ _ _ e]
   exact hn'.st.lim b p cs' lo hb hv
 ·intro b p hb
  rw [size_anew]
  by_cases e : b = Vec.size H
  ·omega
  ·rw [Rho.upd_ne ρ _ _ e] at hb
   have := hn.dom b p hb
   omega
end
structure Memo where
 f : FuncId
 args : List Value
 req : List (Nat × List Value)
 v : Value
 row : Option (List Value)
section
variable {V : Type → Type} [Vec V]
def deads : Nat → AH V
 | 0 => Vec.emp
 | n + 1 => Vec.push (deads n) .dead
def mkH (n : Nat) (req : List (Nat × List Value)) : AH V := req.foldl (fun H r => Vec.set H r.1 (.arr r.2 false 0)) (deads n)
theorem size_deads : ∀ n, Vec.size (deads n : AH V) = n
 | 0 => Vec.size_emp
 | n + 1 => by rw [deads, Vec.size_push, size_deads n]
theorem get_deads : ∀ (n b : Nat) (B : Blk), Vec.get (deads n : AH V) b = some B → B = .dead
 | 0, b, B, h => by rw [deads, Vec.get_emp] at h; cases h
 | n + 1, b, B, h => by
   rw [deads, Vec.get_push] at h
   split at h
   ·cases h; rfl
   ·exact get_deads n b B h
theorem size_fold : ∀ (req : List (Nat × List Value)) (H : AH V), Vec.size (req.foldl (fun H r => Vec.set H r.1 (.arr r.2 false 0)) H) = Vec.size H
 | [], _ => rfl
 | r :: rs, H => by rw [List.foldl_cons, size_fold rs, Vec.size_set]
theorem size_mkH (n : Nat) (req : List (Nat × List Value)) : Vec.size (mkH n req : AH V) = n := by rw [mkH, size_fold, size_deads]
theorem get_fold {good : Nat → Blk → Prop} : ∀ (req : List (Nat × List Value)) (H : AH V), (∀ b B, Vec.get H b = some B → good b B) → (∀ r ∈ req, good r.1 (.arr r.2 false 0)) → ∀ b B, Vec.get (req.foldl (fun H r => Vec.set H r.1 (.arr r.2 false 0)) H) b = some B → good b B
 | [], H, h, _, b, B, hb => h b B hb
 | r :: rs, H, h, hr, b, B, hb => by
   rw [List.foldl_cons] at hb
   refine get_fold rs _ ?_ (fun r' h' => hr r' (List.mem_cons_of_mem _ h')) b B hb
   intro b B hb
   rw [Vec.get_set] at hb
   split at hb
   ·next e => cases hb; rw [← e.1]; exact hr r (List.mem_cons_self ..)
   ·exact h b B hb
def reqOk (H : AH V) (req : List (Nat × List Value)) : Bool := req.all fun r => r.2.all flat1 && (match Vec.get H r.1 with
 | some (.arr cs _ _) => veqs cs r.2
 | _ => false)
theorem holds_of {U : Type → Type} [Vec U] {H : AH V} {req : List (Nat × List Value)} (n : Nat) (h : reqOk H req = true) : Holds (mkH n req : AH U) H := by
 refine get_fold req _ (fun b B hb => .inl (get_deads n b B hb)) fun r hr => ?_
 have := List.all_eq_true.1 h r hr
 simp only [Bool.and_eq_true] at this
 obtain ⟨h1, h2⟩ := this
 split at h2
 ·next cs wr lo e =>
  refine .inr ⟨r.2, wr, lo, rfl, h1, ?_⟩
  rw [e, veqs_eq h2]
 ·cases h2
def argsEq : List Value → List Value → Bool
 | [], [] => true
 | a :: r, b :: s => veq a b && argsEq r s
 | _, _ => false
theorem argsEq_eq : ∀ {l l' : List Value}, argsEq l l' = true → l = l'
 | [], [], _ => rfl
 | a :: r, b :: s, h => by
   simp only [argsEq, Bool.and_eq_true] at h
   rw [veq_eq h.1, argsEq_eq h.2]
 | [], _ :: _, h => by cases h
 | _ :: _, [], h => by cases h
def placed (k : Nat) : Value → Value
 | .slice (some ⟨_, o, none⟩) n ce => .slice (some ⟨k, o, none⟩) n ce
 | v => v
def memoRes (m : Memo) (H : AH V) : Value × AH V :=
 match m.row with
 | none => (m.v, H)
 | some cs => (placed (Vec.size H) m.v, anew H cs)
def memoFind : List Memo → FuncId → List Value → AH V → Option (Value × AH V)
 | [], _, _, _ => none
 | m :: r, f, args, H => bif Nat.beq m.f f && (argsEq args m.args && reqOk H m.req) then some (memoRes m H) else memoFind r f args H
def veqT : Value → Value → Bool
 | .tuple a, .tuple b => veqs a.toList b.toList
 | a, b => veq a b
theorem veqT_eq {u v : Value} (h : veqT u v = true) : u = v := by
 unfold veqT at h
 split at h
 ·exact congrArg Value.tuple (Array.ext' (veqs_eq h))
 ·exact veq_eq h
def memoEnd (n : Nat) (m : Memo) (r : Option (Value × AH V)) : Bool :=
 match r with
 | some (v, H1) => (match m.row with
   | none => plain v && veqT v m.v
   | some cs => (match v, m.v with
     | .slice (some ⟨b1, o, none⟩) k ce, .slice (some ⟨_, o', none⟩) k' ce' => Nat.ble n b1 && (Nat.beq o o' && (Nat.beq k k' && Nat.beq ce ce')) && (cs.all flat1 && (match Vec.get H1 b1 with
       | some (.arr cs' true 0) => veqs cs' cs
       | _ => false))
     | _, _ => false))
 | none => false
def memoRun (E : Env V) (N n : Nat) (m : Memo) : Bool := m.args.all (inB (mkH n m.req : AH V)) && memoEnd n m (acall E N m.f m.args (mkH n m.req))
theorem memo_ok {E : Env V} (hE : EnvOk E) {N n : Nat} {m : Memo} (h : memoRun E N n m = true) {H : AH V} (hr : reqOk H m.req = true) : CallsOk E.P m.f m.args H (memoRes m H).1 (memoRes m H).2 := by
 simp only [memoRun, Bool.and_eq_true] at h
 obtain ⟨hi, h⟩ := h
 cases hc : acall E N m.f m.args (mkH n m.req) with
 | none => rw [hc] at h; cases h
 | some p =>
   obtain ⟨v, H1⟩ := p
   rw [hc] at h
   simp only [memoEnd] at h
   obtain ⟨f, args, req, mv, row⟩ := m
   cases row with
   | none =>
     simp only [Bool.and_eq_true] at h
     have := veqT_eq h.2
     subst this
     exact memo_plain hE hc h.1 hi (holds_of n hr)
   | some cs =>
     simp only at h
     split at h
     ·next b1 o k ce b2 o' k' ce' =>
      simp only [Bool.and_eq_true, Nat.beq_eq, Nat.ble_eq] at h
      obtain ⟨⟨h1, h2, h3, h4⟩, h5, h6⟩ := h
      split at h6
      ·next cs' e =>
       have := veqs_eq h6
       subst this
       subst h2; subst h3; subst h4
       exact memo_row hE hc (by rw [size_mkH]; exact h1) e h5 hi (holds_of n hr)
      ·cases h6
     ·cases h
theorem memoFind_ok {E : Env V} (hE : EnvOk E) : ∀ {tb : List Memo}, (∀ m ∈ tb, ∃ N n, memoRun E N n m = true) → ∀ {f : FuncId} {args : List Value} {H : AH V} {v : Value} {H' : AH V}, memoFind tb f args H = some (v, H') → CallsOk E.P f args H v H'
 | [], _, f, args, H, v, H', h => by cases h
 | m :: r, hm, f, args, H, v, H', h => by
   simp only [memoFind] at h
   cases hb : (Nat.beq m.f f && (argsEq args m.args && reqOk H m.req)) with
   | false => rw [hb] at h; exact memoFind_ok hE (fun m' h' => hm m' (List.mem_cons_of_mem _ h')) h
   | true =>
     rw [hb] at h
     simp only [Bool.and_eq_true, Nat.beq_eq] at hb
     obtain ⟨h1, h2, h3⟩ := hb
     obtain ⟨N, n, h4⟩ := hm m (List.mem_cons_self ..)
     have h5 := memo_ok hE h4 h3
     simp only [cond_true, Option.some.injEq] at h
     rw [h] at h5
     rw [← h1, argsEq_eq h2]
     exact h5
def AllRun (E : Env V) : List Memo → Prop
 | [] => True
 | m :: r => (∃ N n, memoRun E N n m = true) ∧ AllRun E r
theorem allRun_mem {E : Env V} : ∀ {tb : List Memo}, AllRun E tb → ∀ m ∈ tb, ∃ N n, memoRun E N n m = true
 | [], _, m, h => by cases h
 | x :: r, ha, m, h => by
   rcases List.mem_cons.1 h with rfl | h
   ·exact ha.1
   ·exact allRun_mem ha.2 m h
def orElse (x y : Option (Value × AH V)) : Option (Value × AH V) :=
 match x with
 | some r => some r
 | none => y
def Env.more (E : Env V) (tb : List Memo) : Env V := { P := E.P, fn := E.fn, ext := fun f args H => orElse (memoFind tb f args H) (E.ext f args H) }
theorem more_ok {E : Env V} (hE : EnvOk E) {tb : List Memo} (h : AllRun E tb) : EnvOk (E.more tb) := by
 refine ⟨hE.fn, fun f args H v H' hx => ?_, hE.draw⟩
 have hx' : orElse (memoFind tb f args H) (E.ext f args H) = some (v, H') := hx
 cases hm : memoFind tb f args H with
 | none => rw [hm] at hx'; exact hE.ext f args H v H' hx'
 | some r =>
   rw [hm] at hx'
   simp only [orElse, Option.some.injEq] at hx'
   subst hx'
   exact memoFind_ok hE (allRun_mem h) hm
end
end Go.Proofs.Ytggaimcopbjdiaa.AM
namespace Go.Proofs.Ytggaimcopbjdiaa.AM
section
variable {V : Type → Type} [Vec V] {E : Env V} {inR : Bool} {T : AT} {H : AH V} {ds : List Nat} {Q : Res V → Prop} {a b c k : ACode}
theorem seq_inv (h : ARuns E (.code inR (.seq a k) T H ds) Q) : ARuns E (.code inR a T H ds) (afterSeq E inR k Q) := by
 obtain ⟨n, r, h1, h2⟩ := h
 cases n with
 | zero => cases h1
 | succ m =>
   replace h1 : sSeq (arun E m) inR k (arun E m (.code inR a T H ds)) = some r := h1
   cases ha : arun E m (.code inR a T H ds) with
   | none => rw [ha] at h1; cases h1
   | some ra =>
     obtain ⟨e, T1, H1, ds1, v1⟩ := ra
     rw [ha] at h1
     refine ⟨m, _, ha, ?_⟩
     cases e
     ·exact ⟨m, r, h1, h2⟩
     all_goals (cases h1; exact h2)
theorem seq_assoc (h : ARuns E (.code inR (.seq a (.seq b c)) T H ds) Q) : ARuns E (.code inR (.seq (.seq a b) c) T H ds) Q := by
 refine runs_seq (runs_seq ((seq_inv h).mono ?_))
 rintro ⟨e, T1, H1, ds1, v1⟩ hr
 cases e
 ·exact seq_inv (show ARuns E (.code inR (.seq b c) T1 H1 ds1) Q from hr)
 all_goals exact hr
theorem seq_cond {s : Src} (t : Bool) (hc : sev T [] s = some (.bool t)) (h : ARuns E (.code inR (.seq (bif t then a else b) k) T H ds) Q) : ARuns E (.code inR (.seq (.cond s a b) k) T H ds) Q := runs_seq (runs_cond t hc (seq_inv h))
end
end Go.Proofs.Ytggaimcopbjdiaa.AM
namespace Go.Proofs.Ytggaimcopbjdiaa.AM
section
variable {V : Type → Type} [Vec V] {P : Program} {W : World} {ρ : Rho} {H : AH V}
def ReadOnly (H : AH V) : Prop := ∀ b B, Vec.get H b = some B → ∃ cs, B = .arr cs false 0
theorem readOnly_emp : ReadOnly (Vec.emp : AH V) := fun b B h => by rw [Vec.get_emp] at h; cases h
theorem getD_at {zs : List Int} {i : Nat} {k : IntKind} {v : Value} (h : (zs.map (Value.int k))[i]? = some v) : i < zs.length ∧ v = .int k (zs.getD i 0) := by
 rw [List.getElem?_map] at h
 cases hq : zs[i]? with
 | none => rw [hq] at h; cases h
 | some z =>
   rw [hq] at h
   have hi := (List.getElem?_eq_some_iff.1 hq).1
   simp only [Option.map_some, Option.some.injEq] at h
   refine ⟨hi, ?_⟩
   rw [← h, List.getD_eq_getElem?_getD, hq]; rfl
end
end Go.Proofs.Ytggaimcopbjdiaa.AM
namespace Go.Proofs.Ytggaimcopbjdiaa.AM
section
variable {V : Type → Type} [Vec V] {E : Env V} {T : AT} {L : List Value} {H H' : AH V} {Q : Value → AH V → Prop} {sz : Nat}
def Sized (sz : Nat) (es : List (List Value)) : Prop := ∀ e ∈ es, e.length = sz
theorem Sized.flat {es : List (List Value)} (h : Sized sz es) : es.flatten.length = es.length * sz := by
 induction es with
 | nil => simp
 | cons e es ih =>
   have h1 := h e (List.mem_cons_self ..)
   have h2 := ih (fun x hx => h x (List.mem_cons_of_mem _ hx))
   rw [List.flatten_cons, List.length_append, h1, h2, List.length_cons, Nat.add_mul]
   omega
theorem Sized.append {a b : List (List Value)} (h : Sized sz a) (k : Sized sz b) : Sized sz (a ++ b) := fun e he => by
 rcases List.mem_append.1 he with x | x
 ·exact h e x
 ·exact k e x
theorem Sized.at {es : List (List Value)} (h : Sized sz es) {i : Nat} (hi : i < es.length) : (es.flatten.drop (i * sz)).take sz = es[i] := by
 induction es generalizing i with
 | nil => simp at hi
 | cons e es ih =>
   have h1 := h e (List.mem_cons_self ..)
   cases i with
   | zero => simp [h1]
   | succ i =>
     rw [List.flatten_cons, List.drop_append, List.drop_eq_nil_of_le (by rw [h1, Nat.add_mul]; omega), List.nil_append, h1, show (i + 1) * sz - sz = i * sz by rw [Nat.add_mul]; omega]
     rw [ih (fun x hx => h x (List.mem_cons_of_mem _ hx)) (by simpa using hi)]
     rfl
def RowS (H : AH V) (v : Value) (es : List (List Value)) : Prop :=
 (nilish v ∧ es = []) ∨ ∃ b off ce blk w lo, v = .slice (some ⟨b, off, none⟩) es.length ce ∧ Vec.get H b = some (.arr blk w lo) ∧ off + es.flatten.length ≤ blk.length ∧ (blk.drop off).take es.flatten.length = es.flatten
theorem RowS.ext {v : Value} {es : List (List Value)} (h : RowS H v es) (he : Keeps H H') : RowS H' v es := by
 rcases h with h | ⟨b, off, ce, blk, w, lo, h1, h2, h3⟩
 ·exact .inl h
 ·exact .inr ⟨b, off, ce, blk, w, lo, h1, he.some h2, h3⟩
theorem RowS.len {v : Value} {es : List (List Value)} (h : RowS H v es) : ∃ a ce, v = .slice a es.length ce := by
 rcases h with ⟨h, rfl⟩ | ⟨b, off, ce, blk, w, lo, rfl, _⟩
 ·obtain ⟨a, ce, rfl⟩ := h.eq; exact ⟨_, _, rfl⟩
 ·exact ⟨_, _, rfl⟩
theorem RowS.alen {v : Value} {es : List (List Value)} (h : RowS H v es) : alen v = some es.length := by
 obtain ⟨a, ce, rfl⟩ := h.len; rfl
theorem RowS.slice {v : Value} {es : List (List Value)} (h : RowS H v es) : veq v v = true ∧ oneCell v = true := by
 obtain ⟨a, ce, rfl⟩ := h.len
 exact ⟨veq_slice _ _ _, rfl⟩
theorem RowS.at {v : Value} {es : List (List Value)} (h : RowS H v es) (hs : Sized sz es) {i : Nat} (hi : i < es.length) : ∃ b off ce blk w lo, v = .slice (some ⟨b, off, none⟩) es.length ce ∧ Vec.get H b = some (.arr blk w lo) ∧
  (blk.drop (off + i * sz)).take sz = es[i] ∧ off + i * sz + sz ≤ blk.length := by
 rcases h with ⟨_, rfl⟩ | ⟨b, off, ce, blk, w, lo, rfl, h2, h3, h4⟩
 ·simp at hi
 ·have hl := hs.flat
  have hle : i * sz + sz ≤ es.length * sz := by
   have := Nat.mul_le_mul_right sz (show i + 1 ≤ es.length by omega)
   rw [Nat.add_mul] at this; omega
  refine ⟨b, off, ce, blk, w, lo, rfl, h2, ?_, by omega⟩
  rw [← hs.at hi]
  conv => rhs; rw [← h4]
  rw [List.drop_take, List.take_take, List.drop_drop, Nat.min_eq_left (by omega)]
theorem RowS.src {v : Value} {es : List (List Value)} (h : RowS H v es) (hs : Sized sz es) : asrc H sz es.length v = some es.flatten := by
 rcases h with ⟨h, rfl⟩ | ⟨b, off, ce, blk, w, lo, rfl, h2, h3, h4⟩
 ·exact h.src sz
 ·rw [hs.flat] at h3 h4
  simp only [asrc, arow, h2]
  rw [if_pos h3, h4]
def AccS (H : AH V) (sz base : Nat) (v : Value) (es : List (List Value)) : Prop :=
 Sized sz es ∧ ((v = .slice none 0 0 ∧ es = []) ∨ ∃ b, base ≤ b ∧ v = .slice (some ⟨b, 0, none⟩) es.length (2 * es.length) ∧ 0 < es.length ∧ Vec.get H b = some (.arr es.flatten true 0))
theorem AccS.nil (H : AH V) (sz base : Nat) : AccS H sz base (.slice none 0 0) [] := ⟨fun e h => (by cases h), .inl ⟨rfl, rfl⟩⟩
theorem AccS.row {base : Nat} {v : Value} {es : List (List Value)} (h : AccS H sz base v es) : RowS H v es := by
 rcases h.2 with ⟨rfl, h0⟩ | ⟨b, h1, rfl, h2, h3⟩
 ·exact .inl ⟨.inl rfl, h0⟩
 ·exact .inr ⟨b, 0, _, _, _, _, rfl, h3, by omega, by rw [List.drop_zero, List.take_length]⟩
theorem AccS.keep {base : Nat} {v : Value} {es : List (List Value)} (h : AccS H sz base v es) (hk : ∀ j, base ≤ j → j < Vec.size H → Vec.get H' j = Vec.get H j) : AccS H' sz base v es := by
 refine ⟨h.1, ?_⟩
 rcases h.2 with h | ⟨b, h1, rfl, h2, h3⟩
 ·exact .inl h
 ·exact .inr ⟨b, h1, rfl, h2, by rw [hk b h1 (Vec.get_lt _ _ _ h3)]; exact h3⟩
theorem AccS.val {base : Nat} {v : Value} {es : List (List Value)} (h : AccS H sz base v es) : ∃ a n c, v = .slice a n c := by
 rcases h.2 with ⟨rfl, _⟩ | ⟨b, _, rfl, _⟩
 ·exact ⟨_, _, _, rfl⟩
 ·exact ⟨_, _, _, rfl⟩
def AccB (H : AH V) (sz : Nat) (ob : Option Nat) (v : Value) (es : List (List Value)) : Prop :=
 Sized sz es ∧ ((ob = none ∧ v = .slice none 0 0 ∧ es = []) ∨ ∃ b, ob = some b ∧ v = .slice (some ⟨b, 0, none⟩) es.length (2 * es.length) ∧ 0 < es.length ∧ Vec.get H b = some (.arr es.flatten true 0))
theorem AccB.nil (H : AH V) (sz : Nat) : AccB H sz none (.slice none 0 0) [] := ⟨fun e h => (by cases h), .inl ⟨rfl, rfl, rfl⟩⟩
theorem AccB.keep {ob : Option Nat} {v : Value} {es : List (List Value)} (h : AccB H sz ob v es) (hk : ∀ j, j < Vec.size H → Vec.get H' j = Vec.get H j) : AccB H' sz ob v es := by
 refine ⟨h.1, ?_⟩
 rcases h.2 with h | ⟨b, h1, rfl, h2, h3⟩
 ·exact .inl h
 ·exact .inr ⟨b, h1, rfl, h2, by rw [hk b (Vec.get_lt _ _ _ h3)]; exact h3⟩
theorem AccB.lt {ob : Option Nat} {v : Value} {es : List (List Value)} (h : AccB H sz ob v es) {b : Nat} (hb : ob = some b) : b < Vec.size H := by
 rcases h.2 with ⟨h, _⟩ | ⟨b', h1, _, _, h3⟩
 ·rw [h] at hb; cases hb
 ·rw [h1] at hb; cases hb; exact Vec.get_lt _ _ _ h3
theorem AccB.row {ob : Option Nat} {v : Value} {es : List (List Value)} (h : AccB H sz ob v es) : RowS H v es := by
 rcases h.2 with ⟨_, rfl, h0⟩ | ⟨b, h1, rfl, h2, h3⟩
 ·exact .inl ⟨.inl rfl, h0⟩
 ·exact .inr ⟨b, 0, _, _, _, _, rfl, h3, by omega, by rw [List.drop_zero, List.take_length]⟩
end
end Go.Proofs.Ytggaimcopbjdiaa.AM
namespace Go.Proofs.Ytggaimcopbjdiaa.AM
inductive All2 {α β : Type} (R : α → β → Prop) : List α → List β → Prop
 | nil : All2 R [] []
 | cons {a : α} {b : β} {l : List α} {l' : List β} (h : R a b) (t : All2 R l l') : All2 R (a :: l) (b :: l')
theorem All2.length {α β : Type} {R : α → β → Prop} {l : List α} {l' : List β} (h : All2 R l l') : l.length = l'.length := by
 induction h with
 | nil => rfl
 | cons _ _ ih => simp [ih]
theorem All2.imp {α β : Type} {R S : α → β → Prop} {l : List α} {l' : List β} (h : All2 R l l') (k : ∀ a b, R a b → S a b) : All2 S l l' := by
 induction h with
 | nil => exact .nil
 | cons x _ ih => exact .cons (k _ _ x) ih
theorem All2.get {α β : Type} {R : α → β → Prop} {l : List α} {l' : List β} (h : All2 R l l') : ∀ i (h1 : i < l.length) (h2 : i < l'.length), R l[i] l'[i] := by
 induction h with
 | nil => intro i h1; simp at h1
 | cons x _ ih =>
   intro i h1 h2
   cases i with
   | zero => exact x
   | succ i => exact ih i (by simpa using h1) (by simpa using h2)
theorem All2.of_exists {α β : Type} {R : α → β → Prop} : ∀ {l : List α}, (∀ i (h : i < l.length), ∃ b, R l[i] b) → ∃ l', All2 R l l'
 | [], _ => ⟨[], .nil⟩
 | a :: l, h => by
   obtain ⟨b, hb⟩ := h 0 (by simp)
   obtain ⟨l', hl⟩ := All2.of_exists (l := l) (fun i hi => h (i + 1) (by simpa using hi))
   exact ⟨b :: l', .cons hb hl⟩
section
variable {V : Type → Type} [Vec V] {P : Program} {W : World}
def Pl (V : Type → Type) [Vec V] (P : Program) (W : World) (cs : List Value) (R : AH V → List Value → Prop) : Prop := ∀ (H : AH V) (ρ : Rho), ReadOnly H → Now P (allOf W) W ρ H W →
 ∃ (H' : AH V) (ρ' : Rho) (acs : List Value), Keeps H H' ∧ ReadOnly H' ∧ ρ.le ρ' ∧ Now P (allOf W) W ρ' H' W ∧ VRels ρ' acs cs ∧ R H' acs
def Stays (R : AH V → List Value → Prop) : Prop := ∀ H H' acs, Keeps H H' → R H acs → R H' acs
theorem pl_flat {cs : List Value} (h : cs.all flat1 = true) : Pl V P W cs (fun _ acs => acs = cs) := fun H ρ ro hn =>
 ⟨H, ρ, cs, .refl _, ro, Rho.le.refl _, hn, VRels.flat (fun v hv => flat_of_flat1 (List.all_eq_true.1 h v hv)), rfl⟩
theorem pl_imp {cs : List Value} {R S : AH V → List Value → Prop} (h : Pl V P W cs R) (k : ∀ H acs, R H acs → S H acs) : Pl V P W cs S := fun H ρ ro hn =>
 let ⟨H', ρ', acs, a, b, c, d, e, f⟩ := h H ρ ro hn
 ⟨H', ρ', acs, a, b, c, d, e, k _ _ f⟩
theorem pl_append {a b : List Value} {R S : AH V → List Value → Prop} (h : Pl V P W a R) (hr : Stays R) (k : Pl V P W b S) : Pl V P W (a ++ b) (fun H acs => ∃ x y, acs = x ++ y ∧ R H x ∧ S H y) := fun H ρ ro hn => by
 obtain ⟨H1, ρ1, x, k1, ro1, l1, n1, v1, r1⟩ := h H ρ ro hn
 obtain ⟨H2, ρ2, y, k2, ro2, l2, n2, v2, r2⟩ := k H1 ρ1 ro1 n1
 exact ⟨H2, ρ2, x ++ y, k1.trans k2, ro2, l1.trans l2, n2, VRels.append (v1.mono l2) v2, x, y, rfl, hr _ _ _ k2 r1, r2⟩
theorem pl_rows {D : Type} {Q : D → AH V → List Value → Prop} (hq : ∀ d, Stays (Q d)) {rows : List (List Value)} {ds : List D} (h : All2 (fun r d => Pl V P W r (Q d)) rows ds) : Pl V P W rows.flatten (fun H acs => ∃ ars, acs = ars.flatten ∧ All2 (fun a d => Q d H a) ars ds) := by
 induction h with
 | nil => exact fun H ρ ro hn => ⟨H, ρ, [], .refl _, ro, Rho.le.refl _, hn, .nil, [], rfl, .nil⟩
 | cons x t ih =>
   intro H ρ ro hn
   obtain ⟨H1, ρ1, a, k1, ro1, l1, n1, v1, r1⟩ := x H ρ ro hn
   obtain ⟨H2, ρ2, y, k2, ro2, l2, n2, v2, ars, rfl, r2⟩ := ih H1 ρ1 ro1 n1
   exact ⟨H2, ρ2, a ++ ars.flatten, k1.trans k2, ro2, l1.trans l2, n2, VRels.append (v1.mono l2) v2, a :: ars, rfl, .cons (hq _ _ _ _ k2 r1) r2⟩
theorem place_cells {ρ : Rho} {H : AH V} {acs cs : List Value} {cb co : Nat} {c : Array Value} {e : TypeId} {fr : Nat × Nat} (hro : ReadOnly H) (hn : Now P (allOf W) W ρ H W) (hw : W.heap[cb]? = some (.cells c e fr)) (hlen : co + cs.length ≤ c.size) (hcell : ∀ j v, cs[j]? = some v → c[co + j]? = some v) (hr : VRels ρ acs cs) :
  ∃ (ρ' : Rho), Keeps H (Vec.push H (.arr acs false 0)) ∧ ReadOnly (Vec.push H (.arr acs false 0)) ∧ ρ.le ρ' ∧ Now P (allOf W) W ρ' (Vec.push H (.arr acs false 0)) W ∧ ρ' (Vec.size H) = some (cb, co) ∧ ρ'.lim (Vec.size H) = none := by
 have hfree := hn.fresh
 have hal : acs.length = cs.length := hr.length
 have hB : ∀ ρ2 : Rho, ρ.le ρ2 → BRel P (allOf W) ρ2 W (cb, co) (.arr acs false 0) := fun ρ2 hle => by
  refine ⟨c, e, fr, hw, by rw [hal]; exact hlen, fun i v hv => ?_, fun h => by cases h⟩
  obtain ⟨v', h1, h2⟩ := hr.get hv
  exact ⟨v', hcell i v' h1, h2.mono hle⟩
 have hlt : cb < W.heap.size := (Array.getElem?_eq_some_iff.1 hw).1
 have hview : ∀ b, b ≠ Vec.size H → view (Vec.push H (.arr acs false 0)) b = view H b := fun b hb => by rw [view_push]; exact setB_ne _ _ hb
 have hsame : view (Vec.push H (.arr acs false 0)) (Vec.size H) = .arr acs false 0 := by rw [view_push]; exact setB_same _ _ _
 have hvro : ∀ b, view H b = .dead ∨ ∃ cs, view H b = .arr cs false 0 := fun b => by
  unfold view
  cases hq : Vec.get H b with
  | none => exact .inl rfl
  | some B => obtain ⟨cs, rfl⟩ := hro b B hq; exact .inr ⟨cs, rfl⟩
 have hboth : ∀ b, view (Vec.push H (.arr acs false 0)) b = .dead ∨ ∃ cs, view (Vec.push H (.arr acs false 0)) b = .arr cs false 0 := fun b => by
  by_cases e : b = Vec.size H
  ·subst e; exact .inr ⟨_, hsame⟩
  ·rw [hview b e]; exact hvro b
 refine ⟨ρ.upd (Vec.size H) (cb, co) none, ⟨by rw [Vec.size_push]; omega, fun j hj => by rw [Vec.get_push, if_neg (by omega)]⟩, ?_, Rho.le_upd _ _ hfree, ⟨⟨hn.st.os, hn.st.tape, hn.st.output, hn.st.size, hn.st.frame, ?_, ?_, ?_, ?_⟩, ?_⟩, Rho.upd_same _ _ _ _, Rho.lim_same _ _ _ _⟩
 ·intro b B hb
  rw [Vec.get_push] at hb
  split at hb
  ·cases hb; exact ⟨_, rfl⟩
  ·exact hro b B hb
 ·intro b p hb
  by_cases e : b = Vec.size H
  ·subst e; rw [Rho.upd_same] at hb; cases hb; exact hlt
  ·rw [Rho.upd_ne ρ _ _ e] at hb; exact hn.st.dom b p hb
 ·intro b p hb
  by_cases e : b = Vec.size H
  ·subst e; rw [Rho.upd_same] at hb; cases hb
   rw [hsame]; exact hB _ (Rho.le_upd _ _ hfree)
  ·rw [Rho.upd_ne ρ _ _ e] at hb
   rw [hview b e]
   exact (hn.st.blk b p hb).mono (Rho.le_upd _ _ hfree)
 ·intro b b' p p' _ _ _ _
  rcases hboth b with h | ⟨cs, h⟩ <;> rw [h] <;> trivial
 ·intro b p cs' lo hb hv
  rcases hboth b with h | ⟨cs, h⟩ <;> rw [h] at hv <;> cases hv
 ·intro b p hb
  rw [Vec.size_push]
  by_cases e : b = Vec.size H
  ·omega
  ·rw [Rho.upd_ne ρ _ _ e] at hb
   have := hn.dom b p hb
   omega
def CSl (W : World) (v : Value) (rows : List (List Value)) : Prop :=
 (v = .slice none 0 0 ∧ rows = []) ∨ (∃ a cap, v = .slice (some a) 0 cap ∧ rows = []) ∨ ∃ cb co cap c e fr, v = .slice (some ⟨cb, co, none⟩) rows.length cap ∧ rows.length ≤ cap ∧ W.heap[cb]? = some (.cells c e fr) ∧ co + rows.flatten.length ≤ c.size ∧ ∀ (j : Nat) (v : Value), rows.flatten[j]? = some v → c[co + j]? = some v
end
end Go.Proofs.Ytggaimcopbjdiaa.AM
namespace Go.Proofs.Ytggaimcopbjdiaa.AM
section
variable {P : Program} {W : World} {A : Type} {enc : TypeId × Value → A}
def Trd (enc : TypeId × Value → A) (P : Program) (W : World) (t : TypeId) (cs : List Value) (d : DataW A) : Prop := ∃ fuel ps, DataW.trod enc P W 0 (fun _ => true) true fuel t cs = some (d, ps)
theorem tr_slice {t e : TypeId} {cs : List Value} {d : DataW A} (ht : P.underlying t = some (.slice e)) (h1 : 0 < P.cellsOf e) (h : Trd enc P W t cs d) :
  ∃ v rows, cs = [v] ∧ CSl W v rows ∧ (∀ (i : Nat) (hi : i < rows.length), rows[i].length = P.cellsOf e ∧ ∃ z, Trd enc P W e rows[i] z ∧ ∀ m ∈ z.weights P e, m ∈ d.weights P t) ∧ ∀ B, (∀ m ∈ d.weights P t, m ≤ B) → rows.length * P.bytesOf e ≤ B := by
 obtain ⟨fuel, ps, h⟩ := h
 rcases DataW.trod_slice ht h with ⟨hcs, _⟩ | ⟨a, len, cap, elems, rest, n, _, hcs, hx, _, hl, _, hlen, hel, _⟩
 ·exact ⟨_, [], hcs, .inl ⟨rfl, rfl⟩, fun i hi => by simp at hi, fun B _ => by simp⟩
 ·refine ⟨_, (List.range len).map fun i => (W.cells? 0 (a.add (i * P.cellsOf e)) (P.cellsOf e)).getD [], hcs, ?_, ?_, ?_⟩
  ·have key : ∀ i, i < len → ∃ cs, W.cells? 0 (a.add (i * P.cellsOf e)) (P.cellsOf e) = some cs ∧ cs.length = P.cellsOf e ∧ ∀ j, j < P.cellsOf e → W.cell? ((a.add (i * P.cellsOf e)).add j) = cs[j]? := fun i hi => by
    have h2 := hel i hi
    rw [List.getElem?_eq_getElem (by omega)] at h2
    cases hq : W.cells? 0 (a.add (i * P.cellsOf e)) (P.cellsOf e) with
    | none => rw [hq] at h2; cases h2
    | some cs =>
      obtain ⟨_, q2, q3⟩ := World.cells?_some hq
      exact ⟨cs, rfl, q2, q3⟩
   by_cases h0 : len = 0
   ·subst h0
    exact .inr (.inl ⟨a, cap, rfl, rfl⟩)
   ·obtain ⟨cs0, q1, q2, q3⟩ := key 0 (by omega)
    have hc0 := q3 0 h1
    rw [List.getElem?_eq_getElem (by omega), Nat.zero_mul] at hc0
    obtain ⟨cb, co, sp⟩ := a
    have haz : (⟨cb, co, sp⟩ : Addr).add 0 = ⟨cb, co, sp⟩ := by simp [Addr.add]
    rw [haz, haz] at hc0
    unfold World.cell? at hc0
    simp only at hc0
    split at hc0
    ·next c el fr hheap =>
     split at hc0
     ·cases hc0
     ·next hsp =>
      have hsp' : sp = none := by simpa using hsp
      subst hsp'
      have cells : ∀ i, i < len → ∀ j, j < P.cellsOf e → ∀ cs, W.cells? 0 ((⟨cb, co, none⟩ : Addr).add (i * P.cellsOf e)) (P.cellsOf e) = some cs → c[co + (i * P.cellsOf e + j)]? = cs[j]? := fun i hi j hj cs hcs' => by
       obtain ⟨cs', r1, r2, r3⟩ := key i hi
       rw [r1] at hcs'
       cases hcs'
       have := r3 j hj
       rw [add_none, add_none] at this
       unfold World.cell? at this
       simp only [hheap] at this
       rw [← this, Nat.add_assoc]
       simp
      have hrl : ∀ i, i < len → ((W.cells? 0 ((⟨cb, co, none⟩ : Addr).add (i * P.cellsOf e)) (P.cellsOf e)).getD []).length = P.cellsOf e := fun i hi => by
       obtain ⟨cs', r1, r2, r3⟩ := key i hi
       rw [r1]; exact r2
      have hsz : Sized (P.cellsOf e) ((List.range len).map fun i => (W.cells? 0 ((⟨cb, co, none⟩ : Addr).add (i * P.cellsOf e)) (P.cellsOf e)).getD []) := fun r hr => by
       obtain ⟨i, hi, rfl⟩ := List.mem_map.1 hr
       exact hrl i (List.mem_range.1 hi)
      have hfl := hsz.flat
      rw [List.length_map, List.length_range] at hfl
      have at_ : ∀ (j : Nat) (v : Value), ((List.range len).map fun i => (W.cells? 0 ((⟨cb, co, none⟩ : Addr).add (i * P.cellsOf e)) (P.cellsOf e)).getD []).flatten[j]? = some v → c[co + j]? = some v := fun j v hj => by
       have hjl := (List.getElem?_eq_some_iff.1 hj).1
       rw [hfl] at hjl
       have hdiv : j / P.cellsOf e < len := Nat.div_lt_of_lt_mul (by rw [Nat.mul_comm]; exact hjl)
       have hmod : j % P.cellsOf e < P.cellsOf e := Nat.mod_lt _ h1
       have hdm := Nat.div_add_mod j (P.cellsOf e)
       rw [Nat.mul_comm] at hdm
       have hrow := hsz.at (i := j / P.cellsOf e) (by simpa using hdiv)
       have hg : ((List.range len).map fun i => (W.cells? 0 ((⟨cb, co, none⟩ : Addr).add (i * P.cellsOf e)) (P.cellsOf e)).getD [])[j / P.cellsOf e]'(by simpa using hdiv) = (W.cells? 0 ((⟨cb, co, none⟩ : Addr).add (j / P.cellsOf e * P.cellsOf e)) (P.cellsOf e)).getD [] := by simp
       rw [hg] at hrow
       obtain ⟨cs', r1, r2, r3⟩ := key _ hdiv
       rw [r1] at hrow
       have h3 := cells _ hdiv _ hmod _ r1
       rw [hdm] at h3
       rw [h3]
       simp only [Option.getD_some] at hrow
       rw [← hrow, List.getElem?_take, if_pos hmod, List.getElem?_drop, hdm]
       exact hj
      refine .inr (.inr ⟨cb, co, cap, c, el, fr, by simp, by simpa using hl, hheap, ?_, at_⟩)
      rw [hfl]
      have hlast := at_ (len * P.cellsOf e - 1)
      have hpos : 0 < len * P.cellsOf e := Nat.mul_pos (by omega) h1
      have hsome := List.getElem?_eq_getElem (l := ((List.range len).map fun i => (W.cells? 0 ((⟨cb, co, none⟩ : Addr).add (i * P.cellsOf e)) (P.cellsOf e)).getD []).flatten) (i := len * P.cellsOf e - 1) (by rw [hfl]; omega)
      have := (Array.getElem?_eq_some_iff.1 (hlast _ hsome)).1
      omega
    ·cases hc0
  ·intro i hi
   have hi' : i < len := by simpa using hi
   have h2 := hel i hi'
   rw [List.getElem?_eq_getElem (by omega)] at h2
   cases hq : W.cells? 0 (a.add (i * P.cellsOf e)) (P.cellsOf e) with
   | none => rw [hq] at h2; cases h2
   | some cs =>
     rw [hq] at h2
     obtain ⟨_, q2, _⟩ := World.cells?_some hq
     have hg : ((List.range len).map fun i => (W.cells? 0 (a.add (i * P.cellsOf e)) (P.cellsOf e)).getD [])[i] = cs := by simp [hq]
     rw [hg]
     refine ⟨q2, (elems[i]'(by omega)).1, ⟨n, (elems[i]'(by omega)).2, h2⟩, fun m hm => ?_⟩
     have hd : d = .slice (elems.map (·.1)) (rest.map (·.1)) := congrArg Prod.fst hx
     subst hd
     simp only [DataW.weights, ht]
     refine List.mem_cons_of_mem _ (List.mem_append_left _ ?_)
     have all : ∀ (l : List (DataW A)) (z : DataW A), z ∈ l → ∀ m ∈ z.weights P e, m ∈ DataW.weightsAll P e l := by
      intro l
      induction l with
      | nil => intro z hz; cases hz
      | cons x r ih =>
        intro z hz m hm
        simp only [DataW.weightsAll, List.mem_append]
        rcases List.mem_cons.1 hz with rfl | hz
        ·exact .inl hm
        ·exact .inr (ih z hz m hm)
     exact all _ _ (List.mem_map.2 ⟨elems[i]'(by omega), List.getElem_mem _, rfl⟩) m hm
  ·intro B hB
   have hd : d = .slice (elems.map (·.1)) (rest.map (·.1)) := congrArg Prod.fst hx
   subst hd
   have := hB (((elems.map (·.1)).length + (rest.map (·.1)).length) * P.bytesOf e) (by simp only [DataW.weights, ht]; exact List.mem_cons_self ..)
   rw [List.length_map, List.length_range, ← hlen]
   rw [List.length_map, Nat.add_mul] at this
   omega
theorem tr_struct {t : TypeId} {fs : Array Field} {cs : List Value} {d : DataW A} (ht : P.underlying t = some (.struct fs)) (h : Trd enc P W t cs d) :
  cs.length = P.cellsOf t ∧ ∀ (i : Nat) (f : Field), fs[i]? = some f → ∃ z, Trd enc P W f.type ((cs.drop f.offset).take (P.cellsOf f.type)) z ∧ ∀ m ∈ z.weights P f.type, m ∈ d.weights P t := by
 obtain ⟨fuel, ps, h⟩ := h
 obtain ⟨xs, n, _, hx, hlen, hsz, hf⟩ := DataW.trod_struct ht h
 refine ⟨hlen, fun i f hi => ?_⟩
 have hlt : i < xs.length := by rw [hsz]; exact (Array.getElem?_eq_some_iff.1 hi).1
 have h2 := hf i f hi
 rw [List.getElem?_eq_getElem hlt] at h2
 refine ⟨xs[i].1, ⟨n, xs[i].2, h2⟩, fun m hm => ?_⟩
 have hd : d = .agg (xs.map (·.1)) := congrArg Prod.fst hx
 subst hd
 simp only [DataW.weights, ht]
 have each : ∀ (ts : List TypeId) (l : List (DataW A)) (j : Nat) (u : TypeId) (z : DataW A), ts[j]? = some u → l[j]? = some z → ∀ m ∈ z.weights P u, m ∈ DataW.weightsEach P ts l := fun ts l j u z q1 q2 => DataW.weights_mem_each q1 q2
 refine each _ _ i f.type xs[i].1 ?_ ?_ m hm
 ·rw [List.getElem?_map, Array.getElem?_toList, hi]; rfl
 ·rw [List.getElem?_map, List.getElem?_eq_getElem hlt]; rfl
theorem tr_int {t : TypeId} {k : IntKind} {cs : List Value} {d : DataW A} (ht : P.underlying t = some (.int k)) (h : Trd enc P W t cs d) : ∃ z, cs = [.int k z] ∧ (Lit.int k z).wf = true := by
 obtain ⟨fuel, ps, h⟩ := h
 cases fuel with
 | zero => simp [DataW.trod] at h
 | succ n =>
   unfold DataW.trod at h
   rw [ht] at h
   split at h <;> simp_all
end
end Go.Proofs.Ytggaimcopbjdiaa.AM
