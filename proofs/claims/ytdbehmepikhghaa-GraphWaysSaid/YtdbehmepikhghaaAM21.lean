/- Regions that draw: all orders. -/
import Derived.Test.YtdbehmepikhghaaAM20
set_option linter.unusedVariables false
set_option linter.unusedSimpArgs false
namespace Go.Proofs.Ytdbehmepikhghaa.AM
section
variable {P : Program} {X : Nat → Option Obj} {w0 wi : World} {V : Type → Type} [Vec V] {share : Bool} {ops : Array Oper} {call : Value → List Value → AH V → Option (Value × AH V)} {T : AT} {keep ord effs : List Nat} {S : Nat → CS V}
  {ρ0 ρ ρ' : Rho} {Ls : Nat → Prop} {f sz0 : Nat} {XD : Nat → Option Obj} {a : Act} {w : World} {ds0 : List Deferred} {r : Option Nat} {n : Nat} {Q : Exit → Act → World → Prop}

theorem op_kind {χ : Type} (op : AOp χ) : op = .bad ∨ isPure op = true ∨ isNew op = true ∨ isEff op = true ∨ ∃ n x, op = .load n x := by
  cases op <;> simp [isPure, isNew, isEff]

/-- Names below a bound as one has them, from there on as the other. -/
def glue (ρ1 ρ : Rho) (n : Nat) : Rho := ⟨fun b => if b < n then ρ1 b else ρ b, fun b => if b < n then ρ1.lim b else ρ.lim b⟩
theorem glue_lo {ρ1 ρ : Rho} {n b : Nat} (h : b < n) : glue ρ1 ρ n b = ρ1 b ∧ (glue ρ1 ρ n).lim b = ρ1.lim b := by
  constructor
  · show (if b < n then ρ1 b else ρ b) = _; rw [if_pos h]
  · show (if b < n then ρ1.lim b else ρ.lim b) = _; rw [if_pos h]
theorem glue_hi {ρ1 ρ : Rho} {n b : Nat} (h : ¬ b < n) : glue ρ1 ρ n b = ρ b ∧ (glue ρ1 ρ n).lim b = ρ.lim b := by
  constructor
  · show (if b < n then ρ1 b else ρ b) = _; rw [if_neg h]
  · show (if b < n then ρ1.lim b else ρ.lim b) = _; rw [if_neg h]

theorem draw_step (C : Canon P share ops call T keep ord effs S) (hcall : CallOk P call) (I : Inv0 P X w0 wi ops T keep ord effs S ρ0 sz0 ds0 Ls f ρ XD a w) (stop : f < ord.length → ¬ Done ord Ls f) {i : Nat} {o : Oper} (ho : ops[i]? = some o) (hnd : ¬ Ls i)
    (hready : ∀ e ∈ o.after.toList, Region.binds .any e = true → Ls e.on) (hdst : ∀ d, o.dst = some d → d < sz0) {K : Act → World → Prop}
    (hK : ∀ f' ρ' XD' a' w', Inv0 P X w0 wi ops T keep ord effs S ρ0 sz0 ds0 (fun j => Ls j ∨ j = i) f' ρ' XD' a' w' → (f' < ord.length → ¬ Done ord (fun j => Ls j ∨ j = i) f') → K a' w') : wpOpIn (FW r) n P ops Q i K a w := by
  have hi : i < ops.size := (Array.getElem?_eq_some_iff.1 ho).1
  obtain ⟨k, hk⟩ := C.plan.pos hi
  have hlt : k < ord.length := (List.getElem?_eq_some_iff.1 hk).1
  have hah := dep_of i o I.closed ho hready
  have hself : ∀ k1, Done ord Ls k1 → k1 ≠ k := by
    rintro k1 ⟨i1, hi1, hl1⟩ rfl
    rw [hk] at hi1; cases hi1
    exact hnd hl1
  have hf : f ≤ k := Nat.le_of_not_lt fun hh => hself k (I.front k hh) rfl
  have hszA : ∀ d, o.dst = some d → d < a.tmps.size := fun d hd => by rw [I.sizeA]; exact hdst d hd
  have up : ∀ k1, Done ord Ls k1 → Done ord (fun j => Ls j ∨ j = i) k1 := fun k1 ⟨i1, h1, h2⟩ => ⟨i1, h1, .inl h2⟩
  have hk' : Done ord (fun j => Ls j ∨ j = i) k := ⟨i, hk, .inr rfl⟩
  have down : ∀ k1, Done ord (fun j => Ls j ∨ j = i) k1 → k1 ≠ k → Done ord Ls k1 := by
    rintro k1 ⟨i1, hi1, hl1⟩ hne
    rcases hl1 with hl1 | rfl
    · exact ⟨i1, hi1, hl1⟩
    · exact absurd (C.plan.inj hi1 hk) hne
  have hcl : Closed ops (fun j => Ls j ∨ j = i) := by
    intro j o' hj hl e he hb
    rcases hl with hl | rfl
    · exact .inl (I.closed j o' hj hl e he hb)
    · rw [ho] at hj; cases hj
      exact .inl (hready e he hb)
  have hK' : ∀ f' ρ' XD' a' w', Inv0 P X w0 wi ops T keep ord effs S ρ0 sz0 ds0 (fun j => Ls j ∨ j = i) f' ρ' XD' a' w' → K a' w' := fun f' ρ' XD' a' w' J => by
    obtain ⟨f2, XD2, J2, hs⟩ := J.advance C _ rfl
    exact hK f2 ρ' XD2 a' w' J2 hs
  have hsz1 := C.size1 hlt
  have hszf := C.size hf (by omega)
  have he := I.erel C hk ho hnd hah
  -- memory as it was
  have same : (S (k + 1)).H = (S k).H → ∀ v', VRel (ρ.cut (Vec.size (S k).H)) (S (k + 1)).v v' → K (a.put o.dst v') w := by
    intro hH v' hv
    obtain ⟨t1, t2⟩ := I.tell C hk ho hnd hszA (Rho.le.refl ρ) (v' := v') (by rw [hH]; exact hv)
    refine hK' f ρ XD _ w ⟨I.fle, fun k1 h1 => up k1 (I.front k1 h1), hcl, I.now, I.xd, fun k1 h1 hd => ?_, fun k1 cs h1 hd hHk => ?_, fun b p hb => ?_, I.sep, t1, t2, I.le0, I.heap, I.names, by rw [put_size]; exact I.sizeA, by rw [put_defers]; exact I.defs⟩
    · by_cases e : k1 = k
      · subst e; exact .inl hH
      · exact I.calm k1 h1 (down k1 hd e)
    · by_cases e : k1 = k
      · subst e
        rw [hH] at hHk
        have := congrArg Vec.size hHk
        rw [size_anew] at this
        omega
      · exact I.extra k1 cs h1 (down k1 hd e) hHk
    · rcases I.dom b p hb with h | ⟨k1, cs, h1, h2, h3⟩
      · exact .inl h
      · exact .inr ⟨k1, cs, h1, up k1 h2, h3⟩
  have hab : ∀ fn, o.about P w a.eval = some fn → (FW r).fn fn := fun _ _ => trivial
  cases (C.step k i o hk ho).1 with
  | @other x hg hc hy hv hm hL hH hG =>
    obtain ⟨v, h1, h2⟩ := I.org C hk ho hnd hah hy
    rw [hv] at h1
    cases h1
    unfold wpOpIn
    simp only [ho, Region.wanted, hg, if_true]
    refine ⟨hab, ?_⟩
    rw [Oper.semAt_eq _ _ _ (mov_not_defer hc), move_exec hc, Sem.run_pure, Oper.uponIn_value]
    exact same hH _ h2
  | skip hop hw hv hy hm hL hH hG =>
    have hwt := I.wanted C hk ho hnd hah hw
    unfold wpOpIn
    simp only [ho, hwt, Bool.false_eq_true, if_false]
    exact ⟨hab, same hH _ (by rw [hv]; exact .flat rfl)⟩
  | @exec op' hop hw hx hy hm hL hl hsz hG =>
    have hwt := I.wanted C hk ho hnd hah hw
    rw [aexec_mapM hop] at hx
    unfold wpOpIn
    simp only [ho, hwt, if_true]
    rcases op_kind (compileOp P share o) with hb | hp | hn | hef | ⟨n', x, hld⟩
    · rw [hb] at hx; simp [aexec] at hx
    · obtain ⟨hH, v', hr, hyes⟩ := pure_sound he hp hx
      refine ⟨hab, ?_⟩
      rw [Oper.semAt_eq _ _ _ (not_defer hx), hyes w, Oper.uponIn_value]
      exact same hH v' hr
    · -- a new block
      obtain ⟨cs, fv, c, e, hH, hmk⟩ := new_sound he hn hx
      refine ⟨hab, ?_⟩
      rw [Oper.semAt_eq _ _ _ (not_defer hx), hmk.run w, Oper.uponIn_value]
      have hnone : ρ (Vec.size (S k).H) = none := by
        cases hq : ρ (Vec.size (S k).H) with
        | none => rfl
        | some p =>
          rcases I.dom _ _ hq with h | ⟨k1, cs1, h1, h2, h3, h4⟩
          · omega
          · have hne := hself k1 h2
            rcases Nat.lt_or_ge k1 k with hc | hc
            · have := C.size (k := k1 + 1) (k' := k) (by omega) (by omega)
              rw [h3, size_anew] at this
              omega
            · have := C.size (k := k + 1) (k' := k1) (by omega) (by have := h2.lt; omega)
              rw [hH, size_anew] at this
              omega
      have hs1 : Vec.size (S (k + 1)).H = Vec.size (S k).H + 1 := by rw [hH, size_anew]
      have hle : ρ.le (ρ.upd (Vec.size (S k).H) (w.heap.size, 0) (some (cs.length, c.size))) := Rho.le_upd _ _ hnone
      have hcutle : (ρ.cut (Vec.size (S k).H)).le ((ρ.upd (Vec.size (S k).H) (w.heap.size, 0) (some (cs.length, c.size))).cut (Vec.size (S (k + 1)).H)) := (cut_mono hle _).trans (cut_le (by omega))
      have hv : VRel ((ρ.upd (Vec.size (S k).H) (w.heap.size, 0) (some (cs.length, c.size))).cut (Vec.size (S (k + 1)).H)) (S (k + 1)).v (fv w.heap.size) :=
        hmk.val _ _ hcutle (cut_some.2 ⟨by omega, Rho.upd_same _ _ _ _⟩)
      obtain ⟨t1, t2⟩ := I.tell C hk ho hnd hszA hle hv
      have hfresh : XD w.heap.size = none := I.now.st.fresh
      have hXf : X w.heap.size = none := by
        cases hq : X w.heap.size with
        | none => rfl
        | some ob => rw [I.xd _ _ hq] at hfresh; cases hfresh
      have hbelow : ∀ b p, ρ b = some p → p.1 < w.heap.size := by
        intro b p hb
        rcases I.dom b p hb with h | ⟨k1, cs1, h1, h2, h3, h4⟩
        · exact I.now.st.dom b p (cut_some.2 ⟨h, hb⟩)
        · obtain ⟨cb, c1, e1, q1, q2, q3, _⟩ := I.extra k1 cs1 h1 h2 h3
          subst h4
          rw [hb] at q1
          cases q1
          exact (Array.getElem?_eq_some_iff.1 (I.now.st.frame cb _ q3)).1
      refine hK' f _ (putX XD w.heap.size (some (.cells c e (0, 0)))) _ _ ⟨I.fle, fun k1 h1 => up k1 (I.front k1 h1), hcl, ?_, fun cb ob hcb => ?_, fun k1 h1 hd => ?_, fun k1 cs1 h1 hd hHk => ?_, fun b p hb => ?_, fun b b' p p' hb hb' hq hge => ?_, t1, t2, I.le0.trans hle, ?_, fun b p hb => ?_, by rw [put_size]; exact I.sizeA, by rw [put_defers]; exact I.defs⟩
      · refine (I.now.beside (.cells c e)).rho (cut_mono hle _) (fun b p hb => ?_)
        rw [cut_some] at hb ⊢
        refine ⟨hb.1, ?_⟩
        have := hb.2
        rwa [Rho.upd_ne ρ _ _ (by omega)] at this
      · rw [putX_ne _ (fun e2 => by subst e2; rw [hXf] at hcb; cases hcb)]
        exact I.xd cb ob hcb
      · by_cases e1 : k1 = k
        · subst e1; exact .inr ⟨cs, hH⟩
        · exact I.calm k1 h1 (down k1 hd e1)
      · by_cases e1 : k1 = k
        · subst e1
          have hcs : cs1 = cs := by
            rw [hH, anew_eq, anew_eq] at hHk
            have := congrArg (fun A => Vec.get A (Vec.size (S k1).H)) hHk
            simp only [Vec.get_push, if_true, Option.some.injEq, Blk.arr.injEq] at this
            exact this.1.symm
          subst hcs
          exact ⟨w.heap.size, c, e, Rho.upd_same _ _ _ _, Rho.lim_same _ _ _ _, putX_same _ _, hXf, hmk.le, hmk.rel.mono (cut_mono hle _)⟩
        · obtain ⟨cb, c1, e2, q1, q2, q3, q4, q5, q6⟩ := I.extra k1 cs1 h1 (down k1 hd e1) hHk
          have hne : Vec.size (S k1).H ≠ Vec.size (S k).H := fun hh => by rw [hh, hnone] at q1; cases q1
          refine ⟨cb, c1, e2, by rw [Rho.upd_ne ρ _ _ hne]; exact q1, by rw [Rho.lim_ne ρ _ _ hne]; exact q2, ?_, q4, q5, q6.mono (cut_mono hle _)⟩
          rw [putX_ne _ (by have := hbelow _ _ q1; simp only at this; omega)]
          exact q3
      · by_cases e1 : b = Vec.size (S k).H
        · exact .inr ⟨k, cs, hf, hk', hH, e1⟩
        · rw [Rho.upd_ne ρ _ _ e1] at hb
          rcases I.dom b p hb with h | ⟨k1, cs1, h1, h2, h3⟩
          · exact .inl h
          · exact .inr ⟨k1, cs1, h1, up k1 h2, h3⟩
      · by_cases e1 : b = Vec.size (S k).H
        · by_cases e2 : b' = Vec.size (S k).H
          · omega
          · rw [Rho.upd_ne ρ _ _ e2] at hb'
            subst e1
            rw [Rho.upd_same] at hb
            cases hb
            have := hbelow _ _ hb'
            simp only at hq
            omega
        · rw [Rho.upd_ne ρ _ _ e1] at hb
          by_cases e2 : b' = Vec.size (S k).H
          · subst e2
            rw [Rho.upd_same] at hb'
            cases hb'
            have := hbelow _ _ hb
            simp only at hq
            omega
          · rw [Rho.upd_ne ρ _ _ e2] at hb'
            exact I.sep b b' p p' hb hb' hq hge
      · have := I.heap
        show _ ≤ (w.heap.push _).size
        simp; omega
      · rcases names_upd (X := X) hXf b p hb with hh | hh
        · exact I.names b p hh
        · exact .inr hh
    · -- an effect: all ahead of it is done
      have hie : i ∈ effs := (C.eff i o ho).2 hef
      have hkf : k = f := by
        rcases Nat.lt_or_ge f k with hc | hc
        · exact absurd (eff_first (o := o) C hk hie hah f hc) (stop (by omega))
        · omega
      subst hkf
      refine exact_op hcall I.now he hx fun ρ1 v' w' hd => ?_
      have hn1 : ∀ b p, ρ1 b = some p → b < Vec.size (S (k + 1)).H := hd.now.dom
      have hle : ρ.le (glue ρ1 ρ (Vec.size (S (k + 1)).H)) := by
        intro b p hb
        by_cases hlt1 : b < Vec.size (S (k + 1)).H
        · rw [(glue_lo hlt1).1, (glue_lo hlt1).2]
          rcases I.dom b p hb with h | ⟨k1, cs1, h1, h2, h3, h4⟩
          · exact hd.le b p (cut_some.2 ⟨h, hb⟩)
          · have hne := hself k1 h2
            have := C.size (k := k + 1) (k' := k1) (by omega) (by have := h2.lt; omega)
            omega
        · rw [(glue_hi hlt1).1, (glue_hi hlt1).2]; exact ⟨hb, rfl⟩
      have hcut1 : ρ1.le ((glue ρ1 ρ (Vec.size (S (k + 1)).H)).cut (Vec.size (S (k + 1)).H)) := fun b p hb => by
        have := hn1 b p hb
        exact ⟨cut_some.2 ⟨this, by rw [(glue_lo this).1]; exact hb⟩, (glue_lo this).2⟩
      obtain ⟨t1, t2⟩ := I.tell C hk ho hnd hszA hle (hd.val.mono hcut1)
      have hfr : ∀ k1, k + 1 ≤ k1 → Vec.size (S (k + 1)).H ≤ Vec.size (S k1).H ∨ ¬ k1 ≤ ord.length := fun k1 h1 => by
        by_cases h2 : k1 ≤ ord.length
        · exact .inl (C.size h1 h2)
        · exact .inr h2
      refine hK' (k + 1) _ XD _ w' ⟨by omega, fun k1 h1 => ?_, hcl, hd.now.rho hcut1 (fun b p hb => ?_), I.xd, fun k1 h1 hdk => I.calm k1 (by omega) (down k1 hdk (by omega)), fun k1 cs1 h1 hdk hHk => ?_, fun b p hb => ?_, fun b b' p p' hb hb' hq hge => ?_, t1, t2, I.le0.trans hle, Nat.le_trans I.heap hd.heap, fun b p hb => ?_, by rw [put_size]; exact I.sizeA, by rw [put_defers]; exact I.defs⟩
      · by_cases e1 : k1 = k
        · subst e1; exact hk'
        · exact up k1 (I.front k1 (by omega))
      · rw [cut_some] at hb
        have := hb.2
        rwa [(glue_lo hb.1).1] at this
      · obtain ⟨cb, c1, e2, q1, q2, q3, q4, q5, q6⟩ := I.extra k1 cs1 (by omega) (down k1 hdk (by omega)) hHk
        have hge1 : ¬ Vec.size (S k1).H < Vec.size (S (k + 1)).H := by
          rcases hfr k1 h1 with h | h
          · omega
          · have := hdk.lt; omega
        exact ⟨cb, c1, e2, by rw [(glue_hi hge1).1]; exact q1, by rw [(glue_hi hge1).2]; exact q2, q3, q4, q5, q6.mono (cut_mono hle _)⟩
      · by_cases hlt1 : b < Vec.size (S (k + 1)).H
        · exact .inl hlt1
        · rw [(glue_hi hlt1).1] at hb
          rcases I.dom b p hb with h | ⟨k1, cs1, h1, h2, h3, h4⟩
          · omega
          · have hne := hself k1 h2
            exact .inr ⟨k1, cs1, by omega, up k1 h2, h3, h4⟩
      · have hnl : ¬ b < Vec.size (S (k + 1)).H := by omega
        rw [(glue_hi hnl).1] at hb
        by_cases hlt1 : b' < Vec.size (S (k + 1)).H
        · rw [(glue_lo hlt1).1] at hb'
          rcases hd.names b' p' hb' with hh | hh
          · exact I.sep b b' p p' hb (cut_some.1 hh).2 hq (by omega)
          · rcases I.dom b p hb with h | ⟨k1, cs1, h1, h2, h3, h4⟩
            · omega
            · obtain ⟨cb, c1, e2, q1, q2, q3, _⟩ := I.extra k1 cs1 h1 h2 h3
              subst h4
              rw [hb] at q1
              cases q1
              rw [← hq, q3] at hh
              cases hh
        · rw [(glue_hi hlt1).1] at hb'
          exact I.sep b b' p p' hb hb' hq (by omega)
      · by_cases hlt1 : b < Vec.size (S (k + 1)).H
        · rw [(glue_lo hlt1).1] at hb
          rcases hd.names b p hb with hh | hh
          · exact I.names b p (cut_some.1 hh).2
          · refine .inr ?_
            cases hq : X p.1 with
            | none => rfl
            | some ob => rw [I.xd _ _ hq] at hh; cases hh
        · rw [(glue_hi hlt1).1] at hb
          exact I.names b p hb
    · -- a load
      obtain ⟨t, hopl, hagg⟩ := load_inv hld
      have hx0 := hx
      rw [hld] at hx
      obtain ⟨h1, hH⟩ := withH_some hx
      obtain ⟨p, hp, hal⟩ := x1_some h1
      rw [hld] at hop
      simp only [AOp.mapM] at hop
      obtain ⟨s, hs, rfl⟩ := m1_some hop
      have hsev : sev T (S k).L s = some p := by
        simp only [hs, Option.bind_some] at hp
        exact hp
      simp only [loadOk, hsev] at hl
      obtain ⟨v', hr, hrun⟩ := I.load C stop hk hf hah hagg (he _ _ hp) hal hl
      refine ⟨hab, ?_⟩
      rw [Oper.semAt_eq _ _ _ (not_defer hx0)]
      simp only [execOp, hopl, Sem.run_bind, hrun, Result.andThen_ok, Sem.run_pure, Oper.uponIn_value]
      exact same hH v' hr
end
end Go.Proofs.Ytdbehmepikhghaa.AM
