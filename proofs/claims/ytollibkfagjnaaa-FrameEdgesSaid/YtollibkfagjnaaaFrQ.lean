/- Queues: lists cut at their heads, and put into order by slices.Insert. -/
import Derived.Test.YtollibkfagjnaaaPN
import Derived.Test.YtollibkfagjnaaaAMc
set_option linter.unusedVariables false
set_option linter.unusedSimpArgs false
namespace Go.Proofs.Ytollibkfagjnaaa.AM
section
variable {V : Type → Type} [Vec V] {E : Env V} {F F' F0 : Nat → Prop} {ρ ρ' ρ0 : PR} {H H' H0 : AH V} {hp hp' hp0 : PH} {ds ds' : List Nat} {T L : List PV} {Ta La : List Value} {inR : Bool} {p : List Nat} {a b c : ACode} {R : AE → List PV → PH → Prop} {st : PS} {dr : Bool} {ops : List AOper} {l0 : Nat} {Q : List PV → PH → Prop}
/-- A queue: a list with no more room (none), or one of which so much was cut off already. -/
def qv (x : Option (List Int)) (l : List Int) (b : Nat) : PV := match x with
  | none => .exv 1 b l.length
  | some pre => .que b pre.length l.length
def qB (x : Option (List Int)) (l : List Int) : PB := match x with
  | none => .vec 1 l.length (rowI .i64 l) false
  | some pre => .vec 1 (pre ++ l).length (rowI .i64 (pre ++ l)) true
/-- The block of what is to be put in. -/
def eB (c : Int) : PB := .vec 1 1 (fun _ => [.s (.int .i64 c)]) true
theorem ins_elem (hr : Rel F ρ hp ds H) {b : Nat} {w : Value} {c : Int} (h : PRel F ρ H (.vec 1 b 1) w) (hb : hp[b]? = some (eB c)) : ∃ a e, ρ b = some (some (a, e)) ∧ ainsE H w = some (a, .int .i64 c) := by
  rcases hr.blk _ _ hb with ⟨_, h0⟩ | ⟨a, ce, vs, r1, r2, r3, r4, r5, r6, r7, r8, r9, r10⟩
  · omega
  · cases h with
    | fr h => cases h
    | vecz hz h0 => omega
    | @vec _ _ _ a' ce' hρ hn =>
      rw [r1] at hρ; cases hρ
      have hl : vs.length = 1 := by rw [r8, ← r7 rfl]
      obtain ⟨v, rfl⟩ := List.length_eq_one_iff.1 hl
      have hv := r10 0 0 (.s (.int .i64 c)) v (by omega) rfl rfl
      cases hv
      refine ⟨a, ce, r1, ?_⟩
      simp only [ainsE, r3]
      rfl
theorem ins_rows {l : List Int} {k : Nat} {c : Int} : (l.take k ++ c :: l.drop k).length = l.length + 1 := by simp; omega
/-- slices.Insert of one number. -/
theorem ins_call {g : FuncId} (hext : ∀ args (H : AH V), E.ext g args H = ains g g args H) (x : Option (List Int)) (l : List Int) {k : Nat} {c : Int} (hk : k ≤ l.length) (hx : x = none → l = []) (hb : (l.length + 1) * 8 ≤ room) :
    PCall E [0, 1] g [qv x l 0, .s (.int .i64 ((k : Nat) : Int)), .vec 1 1 1] [qB x l, eB c] (fun v hp => v = .que 2 0 (l.length + 1) ∧ hp = [.dead, eB c, .vec 1 (l.length + 1) (rowI .i64 (l.take k ++ c :: l.drop k)) true]) := by
  intro F ρ H avs hr ha
  obtain ⟨w0, w1, w2, rfl⟩ : ∃ w0 w1 w2, avs = [w0, w1, w2] := by
    have := ha.len
    match avs, this with
    | [w0, w1, w2], _ => exact ⟨_, _, _, rfl⟩
  have h0 := ha.at' 0 _ w0 rfl rfl
  have h1 := ha.at' 1 _ w1 rfl rfl
  have h2 := ha.at' 2 _ w2 rfl rfl
  obtain rfl : w1 = .int .i64 ((k : Nat) : Int) := by
    cases h1 with
    | fr h => cases h; rfl
  obtain ⟨ae, ee, he1, he2⟩ := ins_elem hr h2 rfl
  -- what the machine does
  obtain ⟨ne, hne⟩ : ∃ ne, (l.take k ++ c :: l.drop k).map (Value.int .i64) = ne := ⟨_, rfl⟩
  have hnl : ne.length = l.length + 1 := by rw [← hne, List.length_map]; exact ins_rows
  have key : ∃ Hd, Vec.size Hd = Vec.size H ∧ ains g g [w0, .int .i64 ((k : Nat) : Int), w2] H = some (.iface 0 (.slice (some ⟨Vec.size H, 0, none⟩) (l.length + 1) 0), anew Hd ne) ∧ (Hd = H ∨ ∃ a e B, ρ 0 = some (some (a, e)) ∧ ([qB x l, eB c] : PH)[0]? = some B ∧ B ≠ .dead ∧ ¬ F a ∧ Hd = Vec.set H a .dead) := by
    cases x with
    | none =>
      obtain rfl := hx rfl
      obtain rfl : k = 0 := by simpa using hk
      have : ne = [Value.int .i64 c] := by rw [← hne]; rfl
      subst this
      refine ⟨H, rfl, ?_, .inl rfl⟩
      cases h0 with
      | fr h => cases h
      | exv h hn => simp only [ains, he2]; rfl
      | exvz h hn => simp only [ains, he2]; rfl
    | some pre =>
      cases h0 with
      | fr h => cases h
      | @que _ _ _ a e hρ =>
        rcases hr.blk 0 _ rfl with ⟨hz, _⟩ | ⟨a', ce, vs, r1, r2, r3, r4, r5, r6, r7, r8, r9, r10⟩
        · rw [hρ] at hz; cases hz
        · rw [hρ] at r1; cases r1
          have hvl : vs.length = pre.length + l.length := by rw [r8, ← r7 rfl, List.length_append, Nat.mul_one]
          have hvs : ∀ j, j < (pre ++ l).length → vs[j]? = some (.int .i64 ((pre ++ l).getD j 0)) := fun j hj => by
            have hj' : j < vs.length := by rw [hvl, ← List.length_append]; exact hj
            have := r10 j 0 (.s (.int .i64 ((pre ++ l).getD j 0))) vs[j] hj rfl (by rw [Nat.mul_one, Nat.add_zero]; exact List.getElem?_eq_getElem hj')
            rw [List.getElem?_eq_getElem hj']
            generalize vs[j] = u at this
            cases this
            rfl
          have hd : vs.drop pre.length = l.map (Value.int .i64) := by
            apply List.ext_getElem?
            intro j
            rw [List.getElem?_drop, List.getElem?_map]
            by_cases hj : j < l.length
            · rw [hvs _ (by rw [List.length_append]; omega), List.getD_eq_getElem?_getD, List.getElem?_append_right (by omega), Nat.add_sub_cancel_left, List.getElem?_eq_getElem hj]; rfl
            · rw [List.getElem?_eq_none (by omega), List.getElem?_eq_none (by omega)]; rfl
          have hnea : ae ≠ a := fun e0 => by
            subst e0
            have := hr.inj 1 0 _ _ ae _ _ rfl rfl (by simp [eB]) (by simp [qB]) he1 hρ
            cases this
          refine ⟨Vec.set H a .dead, Vec.size_set .., ?_, .inr ⟨a, _, _, hρ, rfl, by simp [qB], r2, rfl⟩⟩
          have hall : (vs.drop pre.length).all oneCell = true := by rw [hd]; simp [oneCell]
          have hkd : vs.drop (pre.length + k) = (l.drop k).map (Value.int .i64) := by rw [← List.drop_drop, hd, List.map_drop]
          simp only [ains, he2, if_true, r3]
          rw [if_pos ⟨rfl, by omega⟩, if_pos ⟨⟨hvl, by omega⟩, ⟨hb, hnea⟩, hall⟩, Int.toNat_natCast, hd, hkd, ← hne, ← List.map_take, List.map_append, List.map_cons]
  obtain ⟨Hd, hs, hrun, hdead⟩ := key
  refine runs_done (r := ⟨.norm, [], anew Hd ne, [], .iface 0 (.slice (some ⟨Vec.size H, 0, none⟩) (l.length + 1) 0)⟩) (fun rec => ?_) ?_
  · show sExt (E.ext g _ H) _ = _
    rw [hext, hrun]; rfl
  -- the relation behind it
  have hr1 : Rel F ρ [.dead, eB c] [] H := rel_kill hr 0
  have hkeep : ∀ a, a < Vec.size H → ¬ Free F ρ [.dead, eB c] [] a → Vec.get (anew Hd ne) a = Vec.get H a := fun a ha hnf => by
    rw [get_anew_lt (by rw [hs]; exact ha)]
    rcases hdead with rfl | ⟨a', e, B, q1, q2, q3, q4, rfl⟩
    · rfl
    · exact get_set_ne fun x => hnf (x ▸ free_of hr q2 q3 q1 q4)
  have hgn : Vec.get (anew Hd ne) (Vec.size H) = some (.arr ne true 0) := by rw [← hs]; exact get_anew_same _ _
  have hst : Step F ρ [] H (ρ.upd 2 (some (Vec.size H, 2 * (l.length + 1)))) ([.dead, eB c] ++ [.vec 1 (l.length + 1) (rowI .i64 (l.take k ++ c :: l.drop k)) true]) (anew Hd ne) := by
    refine rel_push (hp := [.dead, eB c]) hr1 (by rw [size_anew, hs]; omega) hkeep (fun a' e h => by cases h; exact ⟨by rw [size_anew, hs]; omega, .inl (Nat.le_refl _)⟩) fun hle hl => ?_
    refine .inr ⟨Vec.size H, 2 * (l.length + 1), ne, PR.upd_same _ _ _, nf hr, hgn, fun v hv => ?_, by omega, by omega, fun _ => by omega, by rw [hnl]; omega, fun _ _ => rfl, fun i j cc v hi h3 h4 => ?_⟩
    · rw [← hne] at hv
      obtain ⟨z, _, rfl⟩ := List.mem_map.1 hv
      rfl
    · have hj : j = 0 := by
        have := (List.getElem?_eq_some_iff.1 h3).1
        simpa [rowI] using this
      subst hj
      rw [Nat.mul_one, Nat.add_zero, ← hne, List.getElem?_map] at h4
      simp only [rowI, List.getElem?_cons_zero, Option.some.injEq] at h3
      subst h3
      have hi' : i < (l.take k ++ c :: l.drop k).length := by rw [ins_rows]; exact hi
      rw [List.getElem?_eq_getElem hi'] at h4
      simp only [Option.map_some, Option.some.injEq] at h4
      subst h4
      rw [List.getD_eq_getElem?_getD, List.getElem?_eq_getElem hi']
      exact .s _
  refine ⟨F, _, _, .que 2 0 (l.length + 1), hst.ext, fun b y hb h => ?_, hst.rel, .que (PR.upd_same _ _ _), rfl, rfl⟩
  have : b = 0 ∨ b = 1 := by simpa using hb
  rw [PR.upd_ne (by omega)]; exact h
end
end Go.Proofs.Ytollibkfagjnaaa.AM
