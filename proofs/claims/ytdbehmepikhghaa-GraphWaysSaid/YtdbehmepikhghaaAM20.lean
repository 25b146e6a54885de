/- Regions that draw: one ready operation. -/
import Derived.Test.YtdbehmepikhghaaAM19
set_option linter.unusedVariables false
set_option linter.unusedSimpArgs false
namespace Go.Proofs.Ytdbehmepikhghaa.AM
section
variable {P : Program} {X : Nat → Option Obj} {w0 wi : World} {V : Type → Type} [Vec V] {share : Bool} {ops : Array Oper} {call : Value → List Value → AH V → Option (Value × AH V)} {T : AT} {keep ord effs : List Nat} {S : Nat → CS V}
  {ρ0 ρ ρ' : Rho} {Ls : Nat → Prop} {f sz0 : Nat} {XD : Nat → Option Obj} {a : Act} {w : World} {ds0 : List Deferred}

theorem load_inv {o : Oper} {n : Option Nat} {x : Operand} (hop : compileOp P share o = .load n x) : ∃ t, o.op = .load t x ∧ isAggT P t = some n := by
  obtain ⟨dst, op, type, pos, after, guard⟩ := o
  cases op <;> simp only [compileOp] at hop <;> (try (cases hop; done))
  case load t y =>
    split at hop
    · cases hop; exact ⟨t, rfl, ‹_›⟩
    · cases hop
  case call c =>
    exfalso
    obtain ⟨callee, args, argTypes⟩ := c
    cases callee <;> simp only at hop <;> (try (cases hop; done))
    revert hop; (repeat' split) <;> (intro hop; cases hop)
  all_goals (exfalso; revert hop; (repeat' split) <;> (intro hop; cases hop))
theorem load_block {cb : Nat} {c : Array Value} {e : TypeId} {fr : Nat × Nat} (hh : w.heap[cb]? = some (.cells c e fr)) {cs : List Value} (hr : VRels ρ cs (c.toList.take cs.length)) {t : TypeId} {n : Option Nat} (hn : isAggT P t = some n) {off : Nat} {v : Value} (hl : acells cs n off = some v) :
    ∃ v', VRel ρ v v' ∧ (Instr.loadAt t (.pointer (some ⟨cb, 0 + off, none⟩))).run P w = .ok v' w := by
  have get : ∀ i u, cs[i]? = some u → ∃ u', c[i]? = some u' ∧ VRel ρ u u' := fun i u hu => by
    obtain ⟨u', h1, h2⟩ := hr.get hu
    have hi : i < cs.length := (List.getElem?_eq_some_iff.1 hu).1
    rw [List.getElem?_take, if_pos hi, Array.getElem?_toList] at h1
    exact ⟨u', h1, h2⟩
  cases n with
  | none =>
    obtain ⟨d, i, hd, hi, hagg⟩ := isAggT_none hn
    obtain ⟨v', h1, r⟩ := get off v hl
    have hc : w.cell? ⟨cb, 0 + off, none⟩ = some v' := by simp only [World.cell?, hh]; simpa using h1
    exact ⟨v', r, by simp only [Instr.loadAt, Instr.sureAddr, Sem.run_bind, Sem.run_pure, Result.andThen_ok, loadVar_plain hagg hc]⟩
  | some n =>
    obtain ⟨d, i, hd, hrow, hi, hsz, hagg⟩ := isAggT_some hn
    simp only [acells] at hl
    split at hl
    · rename_i hle
      injection hl with hl
      subst hl
      have hlen := hr.length
      have hcl : cs.length ≤ c.size := by simp at hlen; omega
      refine ⟨.agg ((c.toList.drop off).take n).toArray, .agg ?_, run_loadAt_mid w cb (0 + off) t _ d (fun j u hj => ?_) hd hrow (by rw [hi]; simp; omega)⟩
      · refine VRels.of_get (by simp; omega) fun j u hu => ?_
        have hj : j < n := by have := (List.getElem?_eq_some_iff.1 hu).1; simp at this; omega
        simp only [List.getElem?_take, if_pos hj, List.getElem?_drop] at hu ⊢
        obtain ⟨u', h1, h2⟩ := get _ _ hu
        exact ⟨u', by rw [Array.getElem?_toList]; exact h1, h2⟩
      · have hj' : j < n := by have := (List.getElem?_eq_some_iff.1 hj).1; simp at this; omega
        rw [List.getElem?_take, if_pos hj', List.getElem?_drop, Array.getElem?_toList] at hj
        simp only [World.cell?, hh]
        simpa using hj
    · cases hl

theorem Inv0.org (C : Canon P share ops call T keep ord effs S) (I : Inv0 P X w0 wi ops T keep ord effs S ρ0 sz0 ds0 Ls f ρ XD a w) {k i : Nat} {o : Oper} (hk : ord[k]? = some i) (ho : ops[i]? = some o) (hnd : ¬ Ls i)
    (hah : ∀ x ∈ (aheadOf ops.toList).getD i [], Ls x) {x : Operand} {y : Org} (hx : orgIn ops o (S k).m x = some y) : ∃ v, oval T (S k).L y = some v ∧ VRel (ρ.cut (Vec.size (S k).H)) v (a.eval x) := by
  cases x with
  | tmp t =>
    unfold orgIn at hx
    simp only at hx
    split at hx
    · rename_i ht
      obtain ⟨v, v', h1, h2, h3⟩ := I.looked C hk ho hnd hah (by simpa using ht) hx
      exact ⟨v, h1, by simp only [Act.eval, Array.getD_eq_getD_getElem?, h2, Option.getD_some]; exact h3⟩
    · cases hx
  | const c =>
    unfold orgIn at hx
    simp only [orgOf] at hx
    split at hx
    · rename_i hf
      injection hx with hx
      subst hx
      exact ⟨c, rfl, .flat hf⟩
    · cases hx
  | global g => cases hx
  | func fn =>
    injection hx with hx
    subst hx
    exact ⟨_, rfl, .fn .nil .nil⟩
theorem Inv0.erel (C : Canon P share ops call T keep ord effs S) (I : Inv0 P X w0 wi ops T keep ord effs S ρ0 sz0 ds0 Ls f ρ XD a w) {k i : Nat} {o : Oper} (hk : ord[k]? = some i) (ho : ops[i]? = some o) (hnd : ¬ Ls i)
    (hah : ∀ x ∈ (aheadOf ops.toList).getD i [], Ls x) : ERel (ρ.cut (Vec.size (S k).H)) (fun x => (srcIn ops o (S k).m (S k).L.length x).bind (sev T (S k).L)) a.eval := by
  intro x v hx
  simp only [srcIn] at hx
  cases hy : orgIn ops o (S k).m x with
  | none => rw [hy] at hx; cases hx
  | some y =>
    rw [hy] at hx
    obtain ⟨v', h1, h2⟩ := I.org C hk ho hnd hah hy
    simp only [Option.map_some, Option.bind_some, oval_src h1, Option.some.injEq] at hx
    exact hx ▸ h2
theorem Inv0.wanted (C : Canon P share ops call T keep ord effs S) (I : Inv0 P X w0 wi ops T keep ord effs S ρ0 sz0 ds0 Ls f ρ XD a w) {k i : Nat} {o : Oper} (hk : ord[k]? = some i) (ho : ops[i]? = some o) (hnd : ¬ Ls i)
    (hah : ∀ x ∈ (aheadOf ops.toList).getD i [], Ls x) {b : Bool} (hg : Goes ops T o (S k) b) : Region.wanted o (yielded ops a.tmps) = b := by
  cases hg with
  | free hg hb => subst hb; simp only [Region.wanted, hg]
  | @ask j d want src hg hj hs hw =>
    unfold srcIn at hs
    cases hy : orgIn ops o (S k).m (.tmp d) with
    | none => rw [hy] at hs; cases hs
    | some y =>
      rw [hy] at hs
      injection hs with hs
      subst hs
      unfold orgIn at hy
      simp only at hy
      split at hy
      · rename_i ht
        obtain ⟨v, v', h1, h2, h3⟩ := I.looked C hk ho hnd hah (by simpa using ht) hy
        rw [← hw]
        simp only [Region.wanted, hg, yielded, hj, Option.bind_some, h2, awanted, oval_src h1]
        cases h3 with
        | flat hf => cases v <;> simp <;> (first | rfl | (rename_i b; cases b <;> cases want <;> rfl))
        | _ => rfl
      · cases hy

/-- Fewer effects than that stand surely ahead. -/
theorem Inv0.lo (C : Canon P share ops call T keep ord effs S) (I : Inv0 P X w0 wi ops T keep ord effs S ρ0 sz0 ds0 Ls f ρ XD a w) (stop : f < ord.length → ¬ Done ord Ls f) {i : Nat} (hah : ∀ x ∈ (aheadOf ops.toList).getD i [], Ls x) :
    (ord.filter fun e => effs.contains e && ((aheadOf ops.toList).getD i []).contains e).length + 1 ≤ (S f).G.length := by
  rw [C.glen I.fle]
  have h0 : (ord.drop f).filter (fun e => effs.contains e && ((aheadOf ops.toList).getD i []).contains e) = [] := by
    rw [List.filter_eq_nil_iff]
    intro e he hp
    simp only [Bool.and_eq_true, List.contains_iff_mem] at hp
    obtain ⟨j, hj⟩ := List.mem_iff_getElem?.1 he
    rw [List.getElem?_drop] at hj
    have hlt : f + j < ord.length := (List.getElem?_eq_some_iff.1 hj).1
    have hls := hah e hp.2
    have hne : f ≠ f + j := fun hq => stop (by omega) ⟨e, by rw [hq]; exact hj, hls⟩
    have hlt1 : e < ops.size := C.plan.lt _ (List.mem_iff_getElem?.2 ⟨_, hj⟩)
    have he1 : ops[e]? = some ops[e] := Array.getElem?_eq_getElem hlt1
    exact stop (by omega) (eff_first (o := ops[e]) C hj hp.1 (dep_of e _ I.closed he1 (I.closed e _ he1 hls)) f (by omega))
  have hs : ord.filter (fun e => effs.contains e && ((aheadOf ops.toList).getD i []).contains e) = (ord.take f).filter (fun e => effs.contains e && ((aheadOf ops.toList).getD i []).contains e) := by
    conv => lhs; rw [← List.take_append_drop f ord, List.filter_append, h0, List.append_nil]
  rw [hs]
  have hle : ∀ l : List Nat, (l.filter (fun e => effs.contains e && ((aheadOf ops.toList).getD i []).contains e)).length ≤ (l.filter fun e => effs.contains e).length := by
    intro l
    induction l with
    | nil => simp
    | cons x l ih =>
      simp only [List.filter_cons]
      cases effs.contains x <;> cases ((aheadOf ops.toList).getD i []).contains x <;> simp only [Bool.and_true, Bool.and_false, Bool.false_eq_true, if_true, if_false, List.length_cons] <;> omega
  have := hle (ord.take f)
  omega

/-- A load, wherever it comes in the order. -/
theorem Inv0.load (C : Canon P share ops call T keep ord effs S) (I : Inv0 P X w0 wi ops T keep ord effs S ρ0 sz0 ds0 Ls f ρ XD a w) (stop : f < ord.length → ¬ Done ord Ls f) {k i : Nat} (hk : ord[k]? = some i) (hf : f ≤ k)
    (hah : ∀ x ∈ (aheadOf ops.toList).getD i [], Ls x) {t : TypeId} {n : Option Nat} (hn : isAggT P t = some n) {p p' v : Value} (hp : VRel (ρ.cut (Vec.size (S k).H)) p p') (hl : aload (S k).H n p = some v)
    (hst : stable ((S k).G.drop 1) ((S k).G.length - 1 - (ord.filter fun e => effs.contains e && ((aheadOf ops.toList).getD i []).contains e).length) n p v = true) :
    ∃ v', VRel (ρ.cut (Vec.size (S k).H)) v v' ∧ (Instr.loadAt t p').run P w = .ok v' w := by
  have hlt : k < ord.length := (List.getElem?_eq_some_iff.1 hk).1
  have hsz := C.size hf (by omega)
  obtain ⟨pre, hpre, hext⟩ := C.between (f := f) (k := k) hf (by omega)
  obtain ⟨g, r, hg, hge⟩ := C.head I.fle
  -- the pointer, below the front
  have below : ∀ {b off : Nat}, p = .pointer (some ⟨b, off, none⟩) → b < Vec.size (S f).H → VRel (ρ.cut (Vec.size (S f).H)) p p' := by
    intro b off hpp hb
    subst hpp
    obtain ⟨b', o', cb, co, hq, hρ, rfl⟩ := hp.ptr_some
    cases hq
    exact .ptr (cut_some.2 ⟨hb, (cut_some.1 hρ).2⟩)
  have hptr : ∃ b off cs, p = .pointer (some ⟨b, off, none⟩) ∧ arow (S k).H b = some cs ∧ acells cs n off = some v := by
    unfold aload at hl
    split at hl
    · split at hl
      · exact ⟨_, _, _, rfl, ‹_›, hl⟩
      · cases hl
    · cases hl
  obtain ⟨b, off, cs, hpp, hrow, hcell⟩ := hptr
  by_cases hpn : pre = []
  · obtain ⟨g1, g2⟩ := hext hpn
    by_cases hb : b < Vec.size (S f).H
    · have hl' : aload (S f).H n p = some v := by
        subst hpp
        simp only [aload, arow] at hl ⊢
        rw [← g1 b hb]
        exact hl
      obtain ⟨v', h1, h2⟩ := load_sound (P := P) I.now.st hn (below hpp hb) (fun b B _ hB => view_some hB) hl'
      exact ⟨v', h1.mono (cut_le hsz), h2⟩
    · obtain ⟨wr, lo, hget⟩ := arow_some hrow
      have hbk := Vec.get_lt _ _ _ hget
      obtain ⟨k1, cs1, x1, x2, x3, x4, x5⟩ := g2 b (by omega) hbk
      rw [hget] at x5
      cases x5
      subst hpp
      obtain ⟨b', o', cb, co, hq, hρ, rfl⟩ := hp.ptr_some
      cases hq
      have hρb := (cut_some.1 hρ).2
      have hd1 : Done ord Ls k1 := by
        rcases I.dom b _ hρb with h | ⟨k2, cs2, y1, y2, y3, y4⟩
        · omega
        · have : k1 = k2 := by
            rcases Nat.lt_trichotomy k1 k2 with hc | hc | hc
            · have := C.size (k := k1 + 1) (k' := k2) (by omega) (by have := y2.lt; omega)
              rw [x4, size_anew] at this
              omega
            · exact hc
            · have := C.size (k := k2 + 1) (k' := k1) (by omega) (by omega)
              rw [y3, size_anew] at this
              omega
          subst this
          exact y2
      obtain ⟨cb1, c, e, q1, q2, q3, q4, q5, q6⟩ := I.extra k1 cs x1 hd1 x4
      rw [← x3, hρb] at q1
      cases q1
      have hheap := I.now.st.frame cb _ q3
      obtain ⟨v', h1, h2⟩ := load_block (P := P) hheap q6 hn hcell
      exact ⟨v', h1.mono (cut_le (C.size (by omega) (by omega))), h2⟩
  · -- told the same behind the last effect that is done
    have hlo := I.lo C stop hah
    revert hst hlo
    generalize (ord.filter fun e => effs.contains e && ((aheadOf ops.toList).getD i []).contains e).length = lo0
    intro hst hlo
    have hmem : g ∈ ((S k).G.drop 1).take ((S k).G.length - 1 - lo0) := by
      rw [hg, List.length_cons] at hlo
      rw [hpre, hg]
      cases pre with
      | nil => exact absurd rfl hpn
      | cons x pre =>
        refine List.mem_iff_getElem?.2 ⟨pre.length, ?_⟩
        rw [List.getElem?_take, if_pos (by simp; omega)]
        simp
    unfold stable at hst
    have hs1 := List.all_eq_true.1 hst g hmem
    split at hs1
    · rename_i u hu
      have := veq_eq hs1
      subst this
      have hbg : b < Vec.size (S f).H := by
        subst hpp
        unfold aload at hu
        simp only at hu
        split at hu
        · rename_i cs2 hr2
          obtain ⟨wr2, lo2, hget2⟩ := arow_some hr2
          exact Vec.get_lt _ _ _ (hge _ _ hget2)
        · cases hu
      obtain ⟨v', h1, h2⟩ := load_sound (P := P) I.now.st hn (below hpp hbg) (fun b B _ hB => view_some (hge _ _ hB)) hu
      exact ⟨v', h1.mono (cut_le hsz), h2⟩
    · cases hs1
end
end Go.Proofs.Ytdbehmepikhghaa.AM
