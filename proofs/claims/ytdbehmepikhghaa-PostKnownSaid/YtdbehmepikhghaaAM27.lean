/- A call that was evaluated in a heap of its own, of what it reads alone, comes to the same in every heap that holds that; what it leaves is its value, and one new row at most. -/
import Derived.Test.YtdbehmepikhghaaAM25
set_option linter.unusedVariables false
set_option linter.unusedSimpArgs false
namespace Go.Proofs.Ytdbehmepikhghaa.AM
def isArr : Option Blk → Bool
  | some (.arr _ _ _) => true
  | _ => false
section
variable {U : Type → Type} [Vec U] {V : Type → Type} [Vec V] {P : Program} {X : Nat → Option Obj} {w0 w w' : World} {ρ : Rho} {H : AH V} {H0 : AH U}
/-- Every address in it is one of a row of H0. -/
def in1 (H0 : AH U) : Value → Bool
  | .slice (some ⟨b, _, none⟩) _ _ => isArr (Vec.get H0 b)
  | .pointer (some ⟨b, _, none⟩) => isArr (Vec.get H0 b)
  | v => flat1 v
def inB (H0 : AH U) : Value → Bool
  | .agg cs => cs.toList.all (in1 H0)
  | v => in1 H0 v
def Rho.only (ρ : Rho) (H0 : AH U) : Rho := ⟨fun b => if isArr (Vec.get H0 b) = true then ρ b else none, fun _ => none⟩
theorem Rho.only_some {b : Nat} {p : Nat × Nat} (h : ρ.only H0 b = some p) : isArr (Vec.get H0 b) = true ∧ ρ b = some p := by
  have h' : (if isArr (Vec.get H0 b) = true then ρ b else none) = some p := h
  split at h'
  · next e => exact ⟨e, h'⟩
  · cases h'
theorem Rho.only_of {b : Nat} {p : Nat × Nat} (ha : isArr (Vec.get H0 b) = true) (h : ρ b = some p) : ρ.only H0 b = some p := by
  show (if isArr (Vec.get H0 b) = true then ρ b else none) = some p
  rw [if_pos ha]; exact h
theorem VRel.only1 {v v' : Value} (h : VRel ρ v v') (hi : in1 H0 v = true) : VRel (ρ.only H0) v v' := by
  cases h with
  | flat h => exact .flat h
  | ptr h => exact .ptr (Rho.only_of hi h)
  | sl h hc he hx hl => exact .sl (Rho.only_of hi h) hc he hx (fun _ _ L sz hL => by cases hL)
  | slz h he hx => exact .slz (Rho.only_of hi h) he hx
  | wild _ _ => simp [in1, flat1] at hi
  | fn _ _ => simp [in1, flat1] at hi
  | yld _ => simp [in1, flat1] at hi
  | agg _ => simp [in1, flat1] at hi
  | tup _ => simp [in1, flat1] at hi
theorem VRels.only1 {l l' : List Value} (h : VRels ρ l l') (hi : l.all (in1 H0) = true) : VRels (ρ.only H0) l l' := by
  induction l generalizing l' with
  | nil => cases h; exact .nil
  | cons v l ih =>
    cases h with
    | cons x t =>
      simp only [List.all_cons, Bool.and_eq_true] at hi
      exact .cons (x.only1 hi.1) (ih t hi.2)
theorem VRel.onlyB {v v' : Value} (h : VRel ρ v v') (hi : inB H0 v = true) : VRel (ρ.only H0) v v' := by
  by_cases hg : ∃ cs, v = .agg cs
  · obtain ⟨cs, rfl⟩ := hg
    cases h with
    | flat h => exact .flat h
    | agg h => exact .agg (h.only1 hi)
  · refine h.only1 ?_
    unfold inB at hi
    split at hi
    · next cs => exact absurd ⟨cs, rfl⟩ hg
    · exact hi
theorem VRels.onlyB {l l' : List Value} (h : VRels ρ l l') (hi : l.all (inB H0) = true) : VRels (ρ.only H0) l l' := by
  induction l generalizing l' with
  | nil => cases h; exact .nil
  | cons v l ih =>
    cases h with
    | cons x t =>
      simp only [List.all_cons, Bool.and_eq_true] at hi
      exact .cons (x.onlyB hi.1) (ih t hi.2)
def Holds (H0 : AH U) (H : AH V) : Prop := ∀ b B, Vec.get H0 b = some B → B = .dead ∨ ∃ cs wr lo, B = .arr cs false 0 ∧ cs.all flat1 = true ∧ Vec.get H b = some (.arr cs wr lo)
theorem Holds.arr (h : Holds H0 H) {b : Nat} (hb : isArr (Vec.get H0 b) = true) : ∃ cs wr lo, Vec.get H0 b = some (.arr cs false 0) ∧ cs.all flat1 = true ∧ Vec.get H b = some (.arr cs wr lo) := by
  cases hq : Vec.get H0 b with
  | none => rw [hq] at hb; cases hb
  | some B =>
    rcases h b B hq with rfl | ⟨cs, wr, lo, rfl, h1, h2⟩
    · rw [hq] at hb; cases hb
    · exact ⟨cs, wr, lo, rfl, h1, h2⟩
theorem Now.only (s : Now P X w0 ρ H w) (h0 : Holds H0 H) : Now P (allOf w) w (ρ.only H0) H0 w := by
  refine ⟨⟨rfl, rfl, rfl, Nat.le_refl _, fun _ _ h => h, ?_, ?_, ?_, ?_⟩, ?_⟩
  · intro b p hb; exact s.st.dom b p (Rho.only_some hb).2
  · intro b p hb
    obtain ⟨ha, hb'⟩ := Rho.only_some hb
    obtain ⟨cs, wr, lo, h1, h2, h3⟩ := h0.arr ha
    rw [view_some h1]
    have hr := s.st.blk b p hb'
    rw [view_some h3] at hr
    obtain ⟨c, e, fr, r1, r2, r3, _⟩ := hr
    refine ⟨c, e, fr, r1, r2, fun i v hv => ?_, fun h => by cases h⟩
    obtain ⟨v', q1, q2⟩ := r3 i v hv
    have hf : flat1 v = true := List.all_eq_true.1 h2 v (List.mem_of_getElem? hv)
    rw [q2.of_flat1 hf] at q1
    exact ⟨v, q1, .flat (flat_of_flat1 hf)⟩
  · intro b b' p p' _ hb _ _
    obtain ⟨cs, wr, lo, h1, _⟩ := h0.arr (Rho.only_some hb).1
    rw [view_some h1]
    trivial
  · intro b p cs lo hb hv
    obtain ⟨cs', wr, lo', h1, _⟩ := h0.arr (Rho.only_some hb).1
    rw [view_some h1] at hv
    cases hv
  · intro b p hb
    obtain ⟨cs, wr, lo, h1, _⟩ := h0.arr (Rho.only_some hb).1
    exact Vec.get_lt _ _ _ h1
def plain : Value → Bool
  | .tuple vs => vs.toList.all flat1
  | v => flat v
theorem plain_same {v v' : Value} (h : VRel ρ v v') (hp : plain v = true) : v' = v ∧ ∀ r : Rho, VRel r v v := by
  by_cases hg : ∃ vs, v = .tuple vs
  · obtain ⟨vs, rfl⟩ := hg
    have hp' : vs.toList.all flat1 = true := hp
    have hf : ∀ r : Rho, VRels r vs.toList vs.toList := fun r => VRels.flat fun v hv => flat_of_flat1 (List.all_eq_true.1 hp' v hv)
    cases h with
    | flat _ => exact ⟨rfl, fun r => .tup (hf r)⟩
    | tup h => exact ⟨congrArg Value.tuple (Array.ext' (h.of_flat1 hp')), fun r => .tup (hf r)⟩
  · have hf : flat v = true := by
      unfold plain at hp
      split at hp
      · next vs => exact absurd ⟨vs, rfl⟩ hg
      · exact hp
    exact ⟨h.of_flat hf, fun r => .flat hf⟩
variable {E : Env U} {N : Nat} {f : FuncId} {args : List Value} {v : Value} {H1 : AH U}
theorem memo_plain (hE : EnvOk E) (h : acall E N f args H0 = some (v, H1)) (hv : plain v = true) (hi : args.all (inB H0) = true) (h0 : Holds H0 H) : CallsOk E.P f args H v H := by
  obtain ⟨h1, h2⟩ := acall_sound hE h
  refine ⟨h1, fun X w0 ρ w args' hvs hn r n => ?_⟩
  refine CallsIn.mono (h2 (allOf w) w (ρ.only H0) w args' (hvs.onlyB hi) (hn.only h0) r n) fun e w' he => ?_
  obtain ⟨v', rfl, ρ', hd⟩ := he
  obtain ⟨rfl, hs⟩ := plain_same hd.val hv
  refine ⟨_, rfl, ρ, Rho.le.refl _, hn.grown hd.now.st.os hd.now.st.tape hd.now.st.output hd.heap fun k hk => ?_, hs ρ, Nat.le_refl _, hd.heap, names_same⟩
  have hq : w.heap[k]? = some w.heap[k] := Array.getElem?_eq_getElem hk
  rw [hq]
  exact hd.now.st.frame k _ hq
theorem view_anew_same (H : AH V) (cs : List Value) : view (anew H cs) (Vec.size H) = .arr cs true 0 := by
  unfold anew; rw [view_push]; exact setB_same _ _ _
theorem view_anew_ne {cs : List Value} {b : Nat} (h : b ≠ Vec.size H) : view (anew H cs) b = view H b := by
  unfold anew; rw [view_push]; exact setB_ne _ _ h
theorem memo_row (hE : EnvOk E) {b1 o k ce : Nat} {cs : List Value} (h : acall E N f args H0 = some (.slice (some ⟨b1, o, none⟩) k ce, H1)) (hb1 : Vec.size H0 ≤ b1) (hcs : Vec.get H1 b1 = some (.arr cs true 0)) (hf : cs.all flat1 = true) (hi : args.all (inB H0) = true) (h0 : Holds H0 H) :
    CallsOk E.P f args H (.slice (some ⟨Vec.size H, o, none⟩) k ce) (anew H cs) := by
  obtain ⟨h1, h2⟩ := acall_sound hE h
  refine ⟨h1, fun X w0 ρ w args' hvs hn r n => ?_⟩
  refine CallsIn.mono (h2 (allOf w) w (ρ.only H0) w args' (hvs.onlyB hi) (hn.only h0) r n) fun e w' he => ?_
  obtain ⟨v', rfl, ρ', hd⟩ := he
  have hn' : Now E.P X w0 ρ H w' := hn.grown hd.now.st.os hd.now.st.tape hd.now.st.output hd.heap fun k hk => by
    have hq : w.heap[k]? = some w.heap[k] := Array.getElem?_eq_getElem hk
    rw [hq]
    exact hd.now.st.frame k _ hq
  have key : ∃ cb co, ρ' b1 = some (cb, co) ∧ (ρ' b1 = some (cb, co) → ∀ r : Rho, r (Vec.size H) = some (cb, co) → r.lim (Vec.size H) = ρ'.lim b1 → VRel r (.slice (some ⟨Vec.size H, o, none⟩) k ce) v') := by
    have hval := hd.val
    generalize hs : Value.slice (some ⟨b1, o, none⟩) k ce = s at hval
    cases hval with
    | flat h => subst hs; simp [Go.Proofs.Ytdbehmepikhghaa.AM.flat, flat1] at h
    | sl hh hc he hx hl =>
      cases hs
      exact ⟨_, _, hh, fun _ r hr hl' => .sl hr hc he hx (by rw [hl']; exact hl)⟩
    | slz hh he hx =>
      cases hs
      exact ⟨_, _, hh, fun _ r hr hl' => .slz hr he hx⟩
    | ptr _ => cases hs
    | wild _ _ => cases hs
    | fn _ _ => cases hs
    | yld _ => cases hs
    | agg _ => cases hs
    | tup _ => cases hs
  obtain ⟨cb, co, hρ, hval⟩ := key
  have hnone : allOf w cb = none := by
    rcases hd.names b1 _ hρ with h | h
    · have := (hn.only h0).dom _ _ h
      omega
    · exact h
  have hge : w.heap.size ≤ cb := by
    have h' : w.heap[cb]? = none := hnone
    exact Array.getElem?_eq_none_iff.1 h'
  have hX : X cb = none := by
    cases hx : X cb with
    | none => rfl
    | some ob =>
      have := hn.st.frame cb ob hx
      have h' : w.heap[cb]? = none := hnone
      rw [h'] at this; cases this
  have hfree : ρ (Vec.size H) = none := hn.fresh
  have hblk : ∀ b, b ≠ Vec.size H → view (anew H cs) b = view H b := fun b hb => view_anew_ne hb
  have hlt : ∀ b p, ρ b = some p → p.1 < w.heap.size := fun b p hb => hn.st.dom b p hb
  refine ⟨_, rfl, ρ.upd (Vec.size H) (cb, co) (ρ'.lim b1), Rho.le_upd _ _ hfree, ⟨⟨hn'.st.os, hn'.st.tape, hn'.st.output, hn'.st.size, hn'.st.frame, ?_, ?_, ?_, ?_⟩, ?_⟩, hval hρ _ (Rho.upd_same _ _ _ _) (Rho.lim_same _ _ _ _), by rw [size_anew]; omega, hd.heap, names_upd hX⟩
  · intro b p hb
    by_cases e : b = Vec.size H
    · subst e; rw [Rho.upd_same] at hb; cases hb; exact hd.now.st.dom b1 _ hρ
    · rw [Rho.upd_ne ρ _ _ e] at hb; exact hn'.st.dom b p hb
  · intro b p hb
    by_cases e : b = Vec.size H
    · subst e; rw [Rho.upd_same] at hb; cases hb
      rw [view_anew_same]
      have hr := hd.now.st.blk b1 _ hρ
      rw [view_some hcs] at hr
      obtain ⟨c, e, fr, r1, r2, r3, r4⟩ := hr
      refine ⟨c, e, fr, r1, r2, fun i v hv => ?_, fun _ => ⟨hX, (r4 rfl).2⟩⟩
      obtain ⟨v', q1, q2⟩ := r3 i v hv
      have hf' : flat1 v = true := List.all_eq_true.1 hf v (List.mem_of_getElem? hv)
      rw [q2.of_flat1 hf'] at q1
      exact ⟨v, q1, .flat (flat_of_flat1 hf')⟩
    · rw [Rho.upd_ne ρ _ _ e] at hb
      rw [hblk b e]
      exact (hn'.st.blk b p hb).mono (Rho.le_upd _ _ hfree)
  · intro b b' p p' hne hb hb' hq
    by_cases e : b = Vec.size H
    · subst e; rw [Rho.upd_same] at hb; cases hb
      rw [Rho.upd_ne ρ _ _ (Ne.symm hne)] at hb'
      have := hlt b' p' hb'
      simp only at hq; omega
    · rw [Rho.upd_ne ρ _ _ e] at hb
      by_cases e' : b' = Vec.size H
      · subst e'; rw [Rho.upd_same] at hb'; cases hb'
        have := hlt b p hb
        simp only at hq; omega
      · rw [Rho.upd_ne ρ _ _ e'] at hb'
        rw [hblk b e, hblk b' e']
        exact hn'.st.sep b b' p p' hne hb hb' hq
  · intro b p cs' lo hb hv
    by_cases e : b = Vec.size H
    · subst e; rw [Rho.upd_same] at hb; cases hb
      rw [view_anew_same] at hv
      cases hv
      rw [Rho.lim_same]
      exact hd.now.st.lim b1 _ _ _ hρ (view_some hcs)
    · rw [Rho.upd_ne ρ _ _ e] at hb
      rw [hblk b e] at hv
      rw [Rho.lim_ne ρ _ _ e]
      exact hn'.st.lim b p cs' lo hb hv
  · intro b p hb
    rw [size_anew]
    by_cases e : b = Vec.size H
    · omega
    · rw [Rho.upd_ne ρ _ _ e] at hb
      have := hn.dom b p hb
      omega
end
/-! ### Tables -/
/-- A call's value; its arguments, and the rows that they name, by number; what it makes new. -/
structure Memo where
  f : FuncId
  args : List Value
  req : List (Nat × List Value)
  v : Value
  row : Option (List Value)
section
variable {V : Type → Type} [Vec V]
def deads : Nat → AH V
  | 0 => Vec.emp
  | n + 1 => Vec.push (deads n) .dead
def mkH (n : Nat) (req : List (Nat × List Value)) : AH V := req.foldl (fun H r => Vec.set H r.1 (.arr r.2 false 0)) (deads n)
theorem size_deads : ∀ n, Vec.size (deads n : AH V) = n
  | 0 => Vec.size_emp
  | n + 1 => by rw [deads, Vec.size_push, size_deads n]
theorem get_deads : ∀ (n b : Nat) (B : Blk), Vec.get (deads n : AH V) b = some B → B = .dead
  | 0, b, B, h => by rw [deads, Vec.get_emp] at h; cases h
  | n + 1, b, B, h => by
    rw [deads, Vec.get_push] at h
    split at h
    · cases h; rfl
    · exact get_deads n b B h
theorem size_fold : ∀ (req : List (Nat × List Value)) (H : AH V), Vec.size (req.foldl (fun H r => Vec.set H r.1 (.arr r.2 false 0)) H) = Vec.size H
  | [], _ => rfl
  | r :: rs, H => by rw [List.foldl_cons, size_fold rs, Vec.size_set]
theorem size_mkH (n : Nat) (req : List (Nat × List Value)) : Vec.size (mkH n req : AH V) = n := by rw [mkH, size_fold, size_deads]
theorem get_fold {good : Nat → Blk → Prop} : ∀ (req : List (Nat × List Value)) (H : AH V), (∀ b B, Vec.get H b = some B → good b B) → (∀ r ∈ req, good r.1 (.arr r.2 false 0)) → ∀ b B, Vec.get (req.foldl (fun H r => Vec.set H r.1 (.arr r.2 false 0)) H) b = some B → good b B
  | [], H, h, _, b, B, hb => h b B hb
  | r :: rs, H, h, hr, b, B, hb => by
    rw [List.foldl_cons] at hb
    refine get_fold rs _ ?_ (fun r' h' => hr r' (List.mem_cons_of_mem _ h')) b B hb
    intro b B hb
    rw [Vec.get_set] at hb
    split at hb
    · next e => cases hb; rw [← e.1]; exact hr r (List.mem_cons_self ..)
    · exact h b B hb
def reqOk (H : AH V) (req : List (Nat × List Value)) : Bool := req.all fun r => r.2.all flat1 && (match Vec.get H r.1 with
  | some (.arr cs _ _) => veqs cs r.2
  | _ => false)
theorem holds_of {U : Type → Type} [Vec U] {H : AH V} {req : List (Nat × List Value)} (n : Nat) (h : reqOk H req = true) : Holds (mkH n req : AH U) H := by
  refine get_fold req _ (fun b B hb => .inl (get_deads n b B hb)) fun r hr => ?_
  have := List.all_eq_true.1 h r hr
  simp only [Bool.and_eq_true] at this
  obtain ⟨h1, h2⟩ := this
  split at h2
  · next cs wr lo e =>
    refine .inr ⟨r.2, wr, lo, rfl, h1, ?_⟩
    rw [e, veqs_eq h2]
  · cases h2
def argsEq : List Value → List Value → Bool
  | [], [] => true
  | a :: r, b :: s => veq a b && argsEq r s
  | _, _ => false
theorem argsEq_eq : ∀ {l l' : List Value}, argsEq l l' = true → l = l'
  | [], [], _ => rfl
  | a :: r, b :: s, h => by
    simp only [argsEq, Bool.and_eq_true] at h
    rw [veq_eq h.1, argsEq_eq h.2]
  | [], _ :: _, h => by cases h
  | _ :: _, [], h => by cases h
def placed (k : Nat) : Value → Value
  | .slice (some ⟨_, o, none⟩) n ce => .slice (some ⟨k, o, none⟩) n ce
  | v => v
def memoRes (m : Memo) (H : AH V) : Value × AH V :=
  match m.row with
  | none => (m.v, H)
  | some cs => (placed (Vec.size H) m.v, anew H cs)
def memoFind : List Memo → FuncId → List Value → AH V → Option (Value × AH V)
  | [], _, _, _ => none
  | m :: r, f, args, H => bif Nat.beq m.f f && (argsEq args m.args && reqOk H m.req) then some (memoRes m H) else memoFind r f args H
def veqT : Value → Value → Bool
  | .tuple a, .tuple b => veqs a.toList b.toList
  | a, b => veq a b
theorem veqT_eq {u v : Value} (h : veqT u v = true) : u = v := by
  unfold veqT at h
  split at h
  · exact congrArg Value.tuple (Array.ext' (veqs_eq h))
  · exact veq_eq h
def memoEnd (n : Nat) (m : Memo) (r : Option (Value × AH V)) : Bool :=
  match r with
  | some (v, H1) => (match m.row with
    | none => plain v && veqT v m.v
    | some cs => (match v, m.v with
      | .slice (some ⟨b1, o, none⟩) k ce, .slice (some ⟨_, o', none⟩) k' ce' => Nat.ble n b1 && (Nat.beq o o' && (Nat.beq k k' && Nat.beq ce ce')) && (cs.all flat1 && (match Vec.get H1 b1 with
        | some (.arr cs' true 0) => veqs cs' cs
        | _ => false))
      | _, _ => false))
  | none => false
/-- The evaluation that a row of a table stands for. -/
def memoRun (E : Env V) (N n : Nat) (m : Memo) : Bool := m.args.all (inB (mkH n m.req : AH V)) && memoEnd n m (acall E N m.f m.args (mkH n m.req))
theorem memo_ok {E : Env V} (hE : EnvOk E) {N n : Nat} {m : Memo} (h : memoRun E N n m = true) {H : AH V} (hr : reqOk H m.req = true) : CallsOk E.P m.f m.args H (memoRes m H).1 (memoRes m H).2 := by
  simp only [memoRun, Bool.and_eq_true] at h
  obtain ⟨hi, h⟩ := h
  cases hc : acall E N m.f m.args (mkH n m.req) with
  | none => rw [hc] at h; cases h
  | some p =>
    obtain ⟨v, H1⟩ := p
    rw [hc] at h
    simp only [memoEnd] at h
    obtain ⟨f, args, req, mv, row⟩ := m
    cases row with
    | none =>
      simp only [Bool.and_eq_true] at h
      have := veqT_eq h.2
      subst this
      exact memo_plain hE hc h.1 hi (holds_of n hr)
    | some cs =>
      simp only at h
      split at h
      · next b1 o k ce b2 o' k' ce' =>
        simp only [Bool.and_eq_true, Nat.beq_eq, Nat.ble_eq] at h
        obtain ⟨⟨h1, h2, h3, h4⟩, h5, h6⟩ := h
        split at h6
        · next cs' e =>
          have := veqs_eq h6
          subst this
          subst h2; subst h3; subst h4
          exact memo_row hE hc (by rw [size_mkH]; exact h1) e h5 hi (holds_of n hr)
        · cases h6
      · cases h
theorem memoFind_ok {E : Env V} (hE : EnvOk E) : ∀ {tb : List Memo}, (∀ m ∈ tb, ∃ N n, memoRun E N n m = true) → ∀ {f : FuncId} {args : List Value} {H : AH V} {v : Value} {H' : AH V}, memoFind tb f args H = some (v, H') → CallsOk E.P f args H v H'
  | [], _, f, args, H, v, H', h => by cases h
  | m :: r, hm, f, args, H, v, H', h => by
    simp only [memoFind] at h
    cases hb : (Nat.beq m.f f && (argsEq args m.args && reqOk H m.req)) with
    | false => rw [hb] at h; exact memoFind_ok hE (fun m' h' => hm m' (List.mem_cons_of_mem _ h')) h
    | true =>
      rw [hb] at h
      simp only [Bool.and_eq_true, Nat.beq_eq] at hb
      obtain ⟨h1, h2, h3⟩ := hb
      obtain ⟨N, n, h4⟩ := hm m (List.mem_cons_self ..)
      have h5 := memo_ok hE h4 h3
      simp only [cond_true, Option.some.injEq] at h
      rw [h] at h5
      rw [← h1, argsEq_eq h2]
      exact h5
def AllRun (E : Env V) : List Memo → Prop
  | [] => True
  | m :: r => (∃ N n, memoRun E N n m = true) ∧ AllRun E r
theorem allRun_mem {E : Env V} : ∀ {tb : List Memo}, AllRun E tb → ∀ m ∈ tb, ∃ N n, memoRun E N n m = true
  | [], _, m, h => by cases h
  | x :: r, ha, m, h => by
    rcases List.mem_cons.1 h with rfl | h
    · exact ha.1
    · exact allRun_mem ha.2 m h
def orElse (x y : Option (Value × AH V)) : Option (Value × AH V) :=
  match x with
  | some r => some r
  | none => y
/-- With a table more. -/
def Env.more (E : Env V) (tb : List Memo) : Env V := { P := E.P, fn := E.fn, ext := fun f args H => orElse (memoFind tb f args H) (E.ext f args H) }
theorem more_ok {E : Env V} (hE : EnvOk E) {tb : List Memo} (h : AllRun E tb) : EnvOk (E.more tb) := by
  refine ⟨hE.fn, fun f args H v H' hx => ?_, hE.draw⟩
  have hx' : orElse (memoFind tb f args H) (E.ext f args H) = some (v, H') := hx
  cases hm : memoFind tb f args H with
  | none => rw [hm] at hx'; exact hE.ext f args H v H' hx'
  | some r =>
    rw [hm] at hx'
    simp only [orElse, Option.some.injEq] at hx'
    subst hx'
    exact memoFind_ok hE (allRun_mem h) hm
end
end Go.Proofs.Ytdbehmepikhghaa.AM
