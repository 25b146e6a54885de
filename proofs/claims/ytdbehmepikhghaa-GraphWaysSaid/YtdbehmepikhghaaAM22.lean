/- Regions that draw: the whole. -/
import Derived.Test.YtdbehmepikhghaaAM21
set_option linter.unusedVariables false
set_option linter.unusedSimpArgs false
namespace Go.Proofs.Ytdbehmepikhghaa.AM
theorem filterMap_len {α : Type} {f : Nat → Option α} : ∀ {ord : List Nat}, (∀ i ∈ ord, (f i).isSome = true) → (ord.filterMap f).length = ord.length
  | [], _ => rfl
  | i :: ord, h => by
    obtain ⟨x, hx⟩ := Option.isSome_iff_exists.1 (h i (by simp))
    rw [List.filterMap_cons_some hx, List.length_cons, List.length_cons, filterMap_len (fun j hj => h j (by simp [hj]))]
theorem count_set : ∀ {l : List Bool} {i : Nat}, l[i]? = some false → (l.set i true).count false + 1 = l.count false
  | [], i, h => by simp at h
  | b :: l, 0, h => by
    simp at h
    subst h
    simp [List.count_cons]
  | b :: l, i + 1, h => by
    have := count_set (l := l) (i := i) (by simpa using h)
    rw [List.set_cons_succ, List.count_cons, List.count_cons]
    omega
section
variable {P : Program} {X : Nat → Option Obj} {w0 wi : World} {V : Type → Type} [Vec V] {share : Bool} {ops : Array Oper} {call : Value → List Value → AH V → Option (Value × AH V)} {T : AT} {keep ord effs : List Nat} {S : Nat → CS V}
  {ρ0 : Rho} {sz0 : Nat} {ds0 : List Deferred} {r : Option Nat} {n : Nat} {Q : Exit → Act → World → Prop}

def lsOf (listed : Array Bool) : Nat → Prop := fun j => listed[j]? = some true
theorem any_sound (C : Canon P share ops call T keep ord effs S) (hcall : CallOk P call) (hdst : ∀ (i : Nat) (o : Oper), ops[i]? = some o → ∀ d, o.dst = some d → d < sz0)
    (hQ : ∀ ρ XD a w, Inv0 P X w0 wi ops T keep ord effs S ρ0 sz0 ds0 (fun j => j < ops.size) ord.length ρ XD a w → Q .normal a w) :
    ∀ (fuel : Nat) (listed : Array Bool) (f : Nat) (ρ : Rho) (XD : Nat → Option Obj) (a : Act) (w : World), listed.size = ops.size → listed.toList.count false = fuel →
      Inv0 P X w0 wi ops T keep ord effs S ρ0 sz0 ds0 (lsOf listed) f ρ XD a w → (f < ord.length → ¬ Done ord (lsOf listed) f) → wpAnyIn (FW r) n P .any ops Q fuel listed a w := by
  have allOf : ∀ (listed : Array Bool), listed.size = ops.size → Region.ready .any ops listed = [] → ∀ j, j < ops.size → lsOf listed j := by
    intro listed hsz hr
    have key : ∀ (k j : Nat), ord[k]? = some j → lsOf listed j := by
      intro k
      induction k using Nat.strongRecOn with
      | _ k ih =>
        intro j hj
        have hlt := C.plan.lt j (List.mem_iff_getElem?.2 ⟨k, hj⟩)
        have ho : ops[j]? = some ops[j] := Array.getElem?_eq_getElem hlt
        refine Classical.byContradiction fun hn => ?_
        have hmem : j ∈ Region.ready .any ops listed := by
          rw [mem_ready]
          refine ⟨?_, _, ho, fun e he hb => ?_⟩
          · have hjl : j < listed.size := by omega
            have : listed[j]? = some listed[j] := Array.getElem?_eq_getElem hjl
            rw [Array.getD_eq_getD_getElem?, this, Option.getD_some]
            cases hq : listed[j] with
            | false => rfl
            | true => exact absurd (by show listed[j]? = some true; rw [this, hq]) hn
          · have h1 := ahead_direct (ops := ops.toList) (i := j) (by rw [Array.getElem?_toList]; exact ho) (Array.mem_toList_iff.2 he) hb
            obtain ⟨k', h2, h3⟩ := mem_take (C.plan.before j k hj _ h1)
            have h4 := ih k' h2 _ h3
            show listed.getD e.on false = true
            rw [Array.getD_eq_getD_getElem?, show listed[e.on]? = some true from h4]
            rfl
        rw [hr] at hmem
        cases hmem
    intro j hj
    obtain ⟨k, hk⟩ := C.plan.pos hj
    exact key k j hk
  have fin : ∀ (listed : Array Bool) (f : Nat) (ρ : Rho) (XD : Nat → Option Obj) (a : Act) (w : World), listed.size = ops.size → Region.ready .any ops listed = [] →
      Inv0 P X w0 wi ops T keep ord effs S ρ0 sz0 ds0 (lsOf listed) f ρ XD a w → (f < ord.length → ¬ Done ord (lsOf listed) f) → Q .normal a w := by
    intro listed f ρ XD a w hsz hr I stop
    have hall := allOf listed hsz hr
    have hls : lsOf listed = fun j => j < ops.size := by
      funext j
      apply propext
      exact ⟨fun h => by have := (Array.getElem?_eq_some_iff.1 h).1; omega, hall j⟩
    have hfl : f = ord.length := by
      rcases Nat.lt_or_ge f ord.length with h | h
      · obtain ⟨i, o, h1, h2⟩ := C.at h
        exact absurd ⟨i, h1, hall i (C.plan.lt i (List.mem_iff_getElem?.2 ⟨f, h1⟩))⟩ (stop h)
      · have := I.fle; omega
    subst hfl
    rw [hls] at I
    exact hQ ρ XD a w I
  have noneLeft : ∀ (listed : Array Bool), listed.toList.count false = 0 → Region.ready .any ops listed = [] := by
    intro listed hc
    refine List.eq_nil_iff_forall_not_mem.2 fun j hj => ?_
    have h1 := (mem_ready.1 hj).1
    rw [Array.getD_eq_getD_getElem?] at h1
    cases hq : listed[j]? with
    | none => rw [hq] at h1; cases h1
    | some b =>
      rw [hq] at h1
      simp only [Option.getD_some] at h1
      subst h1
      have hm : false ∈ listed.toList := List.mem_iff_getElem?.2 ⟨j, by rw [Array.getElem?_toList]; exact hq⟩
      exact absurd hm (List.count_eq_zero.1 hc)
  intro fuel
  induction fuel with
  | zero =>
    intro listed f ρ XD a w hsz hc I stop
    exact ⟨noneLeft listed hc, fin listed f ρ XD a w hsz (noneLeft listed hc) I stop⟩
  | succ fuel ih =>
    intro listed f ρ XD a w hsz hc I stop
    refine ⟨fun hr => fin listed f ρ XD a w hsz hr I stop, fun i hi => ?_⟩
    obtain ⟨h1, o, ho, h2⟩ := mem_ready.1 hi
    have hlt : i < ops.size := (Array.getElem?_eq_some_iff.1 ho).1
    have hli : listed[i]? = some false := by
      have : listed[i]? = some listed[i] := Array.getElem?_eq_getElem (by omega)
      rw [Array.getD_eq_getD_getElem?, this, Option.getD_some] at h1
      rw [this, h1]
    refine draw_step C hcall I stop ho (fun hl => by rw [show listed[i]? = some true from hl] at hli; cases hli) (fun e he hb => ?_) (hdst i o ho) fun f' ρ' XD' a' w' J hs => ?_
    · have := h2 e (Array.mem_toList_iff.1 he) hb
      rw [Array.getD_eq_getD_getElem?] at this
      show listed[e.on]? = some true
      cases hq : listed[e.on]? with
      | none => rw [hq] at this; cases this
      | some b => rw [hq] at this; simp only [Option.getD_some] at this; rw [this]
    · have hls : (fun j => lsOf listed j ∨ j = i) = lsOf (listed.setIfInBounds i true) := by
        funext j
        apply propext
        show (listed[j]? = some true ∨ j = i) ↔ (listed.setIfInBounds i true)[j]? = some true
        rw [Array.getElem?_setIfInBounds]
        by_cases e : i = j
        · subst e; rw [if_pos rfl, if_pos (by omega)]; simp
        · rw [if_neg e]
          exact ⟨fun h => h.resolve_right (fun h => e h.symm), .inl⟩
      rw [hls] at J hs
      refine ih _ f' ρ' XD' a' w' (by simpa using hsz) ?_ J hs
      have := count_set (l := listed.toList) (i := i) (by rw [Array.getElem?_toList]; exact hli)
      rw [Array.toList_setIfInBounds]
      omega

theorem draw_ok (hm : P.follows .mixedOrders = true) : DrawOk P V := by
  intro share keep ops al back call id nt r n a ds res X w0 ρ H w T hcall hc hr hT hn hnt hd hD
  unfold compileRegion at hc
  simp only [if_true] at hc
  split at hc
  case isFalse => cases hc
  rename_i hok
  split at hc
  case h_2 => cases hc
  rename_i l m k hs
  injection hc with h1 h2
  subst h1; subst h2
  unfold sRegion at hr
  split at hr
  case h_2 => cases hr
  rename_i L' H' ha
  split at hr
  case h_2 => cases hr
  rename_i T' hb
  injection hr with hr
  subst hr
  generalize heffs : ((List.range ops.toList.length).filter fun i => match ops.toList[i]? with | some o => isEff (compileOp P share o) | none => false) = effs at hok hs
  generalize hord : orderOf (aheadOf ops.toList) effs ops.toList.length = ord at hok hs
  have plan := plan_of hok
  have hdef : Def (entry keep) T [] := fun t x hx => by
    obtain ⟨v, _, h1, _⟩ := hT.mrel t x hx
    exact ⟨v, h1⟩
  obtain ⟨S, hS0, hS, hSm, hSL, hSH, hk⟩ := trace (P := P) (.tmp 0) undef hs ha hdef
  have hget : ∀ i ∈ ord, ((ops.toList[i]?).map fun o => (o, (ord.filter fun e => effs.contains e && ((aheadOf ops.toList).getD i []).contains e).length)).isSome = true := fun i hi => by
    have := plan.lt i hi
    simp [this]
  have hlen : (ord.filterMap fun i => (ops.toList[i]?).map fun o => (o, (ord.filter fun e => effs.contains e && ((aheadOf ops.toList).getD i []).contains e).length)).length = ord.length := filterMap_len hget
  have C : Canon P share ops call T keep ord effs S := by
    refine ⟨plan, fun k i o h1 h2 => ?_, by rw [hS0], by rw [hS0], by rw [hS0], fun i o ho => ?_⟩
    · refine hS k o _ ?_
      rw [filterMap_get hget, h1]
      simp [h2]
    · rw [← heffs, List.mem_filter, List.mem_range]
      have hlt : i < ops.toList.length := by
        rw [Array.length_toList]; exact (Array.getElem?_eq_some_iff.1 ho).1
      rw [Array.getElem?_toList, ho]
      exact ⟨fun h => h.2, fun h => ⟨hlt, h⟩⟩
  rw [hlen] at hSm hSL hSH
  refine wpIn_region_any hm ?_
  have hnd : Now P X w0 ρ H { w with drawn := w.drawn + 1 } := hn.drawn _
  have hH0 : (S 0).H = H := by rw [hS0]
  have hlc : ρ.le (ρ.cut (Vec.size H)) := le_cut (Rho.le.refl ρ) hn.dom
  have hno : ∀ k, ¬ Done ord (lsOf (Array.replicate ops.size false)) k := by
    rintro k ⟨i, _, hi⟩
    have : (Array.replicate ops.size false)[i]? = some true := hi
    rw [Array.getElem?_replicate] at this
    split at this <;> cases this
  refine any_sound (X := X) (w0 := w0) (wi := w) (ρ0 := ρ) (sz0 := a.tmps.size) (ds0 := a.defers) C hcall (fun i o ho d hdo => ?_) (fun ρ1 XD a1 w1 I => ?_) ops.size (Array.replicate ops.size false) 0 ρ X a _ (by simp) (by simp) ?_ (fun _ => hno 0)
  · have := List.all_eq_true.1 hd o (Array.mem_toList_iff.2 (Array.mem_of_getElem? ho))
    rw [hdo] at this
    simp only [Nat.blt_eq] at this
    exact Nat.lt_of_lt_of_le this hnt
  · -- the end
    have hall : ∀ k, k < ord.length → Done ord (fun j => j < ops.size) k := fun k hk => I.front k hk
    have hnow : Now P X w0 (ρ1.cut (Vec.size H')) H' w1 := by
      have := I.now.less I.xd
      rw [hSH] at this
      exact this
    have hsz : Vec.size H ≤ Vec.size H' := by
      have := C.size (k := 0) (k' := ord.length) (by omega) (Nat.le_refl _)
      rw [hH0, hSH] at this
      exact this
    have hgone : Gone P X w0 ρ H w (ρ1.cut (Vec.size H')) H' w1 := ⟨le_cut I.le0 (fun b p hb => by have := hn.dom b p hb; omega), hnow, hsz, I.heap, fun b p hb => I.names b p (cut_some.1 hb).2⟩
    have hmr : MRel (ρ1.cut (Vec.size H')) m T L' a1.tmps := by
      intro t x hx
      rw [← hSm] at hx
      rcases C.env (Nat.le_refl _) t x hx with ⟨k', h1, h2, h3, h4⟩ | ⟨h1, j, h2, rfl⟩
      · obtain ⟨v', q1, q2⟩ := I.told k' t (hall k' h1) h2 (fun k'' a1 a2 => h3 k'' a1 a2.lt)
        rw [hSL] at h4
        refine ⟨_, v', h4, q1, q2.mono (cut_le ?_)⟩
        rw [← hSH]
        exact C.size (by omega) (Nat.le_refl _)
      · obtain ⟨v, v', q1, q2, q3⟩ := I.kept t j h2 (fun k'' a2 => h1 k'' a2.lt)
        refine ⟨v, v', q1, q2, q3.mono (cut_le ?_)⟩
        rw [hH0]
        exact hsz
    subst hk
    refine ⟨rfl, _, hgone, back_rel hT hmr (fun t ht => someOps_find hs t ?_) hb, by rw [I.sizeA]; exact hnt, by rw [I.defs]; exact hD.mono hgone.le⟩
    rw [find_entry]
    cases hq : keep.idxOf? t with
    | none => exact absurd hq ht
    | some i => simp
  · refine ⟨by omega, fun k hk => by omega, fun j o _ hj => ?_, ?_, fun _ _ h => h, fun k _ hd => absurd hd (hno k), fun k _ _ hd => absurd hd (hno k), fun b p hb => .inl (by rw [hH0]; exact hn.dom b p hb), fun b b' p p' hb _ _ hge => ?_, fun k t hd => absurd hd (hno k), fun t i hi _ => ?_, Rho.le.refl _, Nat.le_refl _, fun b p hb => .inl hb, rfl, rfl⟩
    · exfalso
      have : (Array.replicate ops.size false)[j]? = some true := hj
      rw [Array.getElem?_replicate] at this
      split at this <;> cases this
    · rw [hH0]
      exact hnd.rho hlc (fun b p hb => (cut_some.1 hb).2)
    · have := hn.dom b p hb
      rw [hH0] at hge
      omega
    · obtain ⟨v, v', q1, q2, q3⟩ := hT t i hi
      exact ⟨v, v', q1, q2, by rw [hH0]; exact q3.mono hlc⟩
end
end Go.Proofs.Ytdbehmepikhghaa.AM
