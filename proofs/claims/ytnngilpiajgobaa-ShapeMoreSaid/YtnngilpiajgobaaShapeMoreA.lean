/- The shape laws: the law on more. -/
import Derived.Test.YtnngilpiajgobaaShapeGraphLaw
set_option linter.unusedVariables false
set_option linter.unusedSimpArgs false
set_option maxRecDepth 10000
namespace Go.Proofs.Ytnngilpiajgobaa.Shape
open Go.Proofs.Ytnngilpiajgobaa.AM
def Good (m : Md) : Prop := ¬ manyM m ∧ (∀ j, j < m.arrays.length → ¬ badArr m j) ∧ ∀ j, j < m.fns.length → FnGood m j
theorem good_of {m : Md} (h : IsCheck m 0 0 0) : Good m := by
  have := good_all h
  rcases h with ⟨_, h, _⟩ | ⟨_, _, _, _, _, h, _⟩ | ⟨h1, h2, _⟩ | ⟨h1, h2, _⟩
  · cases h
  · cases h
  · exact ⟨h1, h2, this⟩
  · exact ⟨h1, h2, this⟩
theorem good_zero {m : Md} {e f a : Int} (g : Good m) (h : IsCheck m e f a) : e = 0 ∧ f = 0 ∧ a = 0 := by
  rcases h with ⟨h, _⟩ | ⟨_, i, h1, h2, _⟩ | ⟨_, _, fi, h1, _, h2, _⟩ | ⟨_, _, _, h⟩
  · exact absurd h g.1
  · exact absurd h2 (g.2.1 i h1)
  · exact absurd (g.2.2 fi h1) (fnBad_notGood h2)
  · exact h
theorem errAt_zero {m : Md} {fi a : Nat} : errAt m fi a = 0 ↔ instrSpec m fi (insAt m fi a).1 (insAt m fi a).2 = 0 ∧ (a + 1 = (fnOf m fi).code.length → (insAt m fi a).1 = 43 ∨ (insAt m fi a).1 = 46) := by
  unfold errAt
  split
  · next h => exact ⟨fun x => by omega, fun x => absurd (x.2 h.2.1) (by omega)⟩
  · next h => exact ⟨fun x => ⟨x, fun hh => by
      by_cases q1 : (insAt m fi a).1 = 43
      · exact .inl q1
      · by_cases q2 : (insAt m fi a).1 = 46
        · exact .inr q2
        · exact absurd ⟨x, hh, q1, q2⟩ h⟩, fun x => x.1⟩
theorem instr_zero {m : Md} {f op a : Int} : instrSpec m f op a = 0 ↔ (0 ≤ f ∧ f < m.fns.length) ∧ roomSpec m f op ≠ -2 ∧ ¬ (0 ≤ roomSpec m f op ∧ (a < 0 ∨ roomSpec m f op ≤ a)) := by
  unfold instrSpec
  split
  · next h => exact ⟨fun x => by omega, fun x => absurd x.1 h⟩
  · next h =>
    split
    · next h2 => exact ⟨fun x => by omega, fun x => absurd h2 x.2.1⟩
    · next h2 =>
      split
      · next h3 => exact ⟨fun x => by omega, fun x => absurd h3 x.2.2⟩
      · next h3 => exact ⟨fun _ => ⟨Decidable.of_not_not h, h2, h3⟩, fun _ => rfl⟩
/-! ### A row more in a table -/
def extM (m : Md) (l : Int) : Md := ⟨m.gs ++ [l], m.arrays ++ [(1, l)], m.chans ++ [l], m.fns⟩
theorem room_ext (m : Md) (l f op : Int) : roomSpec (extM m l) f op = roomSpec m f op ∨ (0 ≤ roomSpec m f op ∧ roomSpec (extM m l) f op = roomSpec m f op + 1) := by
  have e1 : locSpec (extM m l) f = locSpec m f := rfl
  have e2 : fnOf (extM m l) f = fnOf m f := rfl
  have e3 : (extM m l).fns = m.fns := rfl
  have e4 : (extM m l).gs.length = m.gs.length + 1 := by simp [extM]
  have e5 : (extM m l).arrays.length = m.arrays.length + 1 := by simp [extM]
  have e6 : (extM m l).chans.length = m.chans.length + 1 := by simp [extM]
  unfold roomSpec
  rw [e1, e2, e3, e4, e5, e6]
  by_cases c1 : 1 ≤ op ∧ op ≤ 17
  · simp only [if_pos c1]; exact .inl trivial
  simp only [if_neg c1]
  by_cases c2 : op = 32
  · simp only [if_pos c2]; exact .inl trivial
  simp only [if_neg c2]
  by_cases c3 : op = 33 ∨ op = 34
  · simp only [if_pos c3]; exact .inl trivial
  simp only [if_neg c3]
  by_cases c4 : op = 35 ∨ op = 36
  · simp only [if_pos c4]; right; omega
  simp only [if_neg c4]
  by_cases c5 : op = 37 ∨ op = 38
  · simp only [if_pos c5]; right; omega
  simp only [if_neg c5]
  by_cases c6 : op = 39 ∨ op = 40 ∨ op = 41 ∨ op = 42 ∨ op = 46
  · simp only [if_pos c6]; exact .inl trivial
  simp only [if_neg c6]
  by_cases c7 : op = 43 ∨ op = 44
  · simp only [if_pos c7]; exact .inl trivial
  simp only [if_neg c7]
  by_cases c8 : op = 45
  · simp only [if_pos c8]; exact .inl trivial
  simp only [if_neg c8]
  by_cases c9 : op = 47
  · simp only [if_pos c9]; right; omega
  simp only [if_neg c9]; exact .inl trivial
theorem instr_ext {m : Md} {l f op a : Int} (h : instrSpec m f op a = 0) : instrSpec (extM m l) f op a = 0 := by
  have e3 : (extM m l).fns = m.fns := rfl
  rw [instr_zero] at h ⊢
  rw [e3]
  have := room_ext m l f op
  omega
theorem good_ext {m : Md} {l : Int} (g : Good m) (h1 : m.gs.length < 32) (h2 : m.arrays.length < 16) (h3 : m.chans.length < 16) : Good (extM m l) := by
  obtain ⟨g1, g2, g3⟩ := g
  refine ⟨?_, fun j hj => ?_, fun j hj => ⟨(g3 j hj).1, fun a ha => ?_⟩⟩
  · unfold manyM at g1 ⊢
    simp only [extM, List.length_append, List.length_singleton]
    omega
  · by_cases hjl : j < m.arrays.length
    · have := g2 j hjl
      unfold badArr lenAt at this ⊢
      have e : (extM m l).arrays.getD j (0, 0) = m.arrays.getD j (0, 0) := by simp only [extM, List.getD, List.getElem?_append_left hjl]
      rw [e]; exact this
    · have hj' : j < m.arrays.length + 1 := by simpa [extM] using hj
      have hje : j = m.arrays.length := by omega
      subst hje
      unfold badArr lenAt
      have e : (extM m l).arrays.getD m.arrays.length (0, 0) = (1, l) := by simp [extM, List.getD]
      rw [e]
      omega
  · have := (g3 j hj).2 a ha
    rw [errAt_zero] at this ⊢
    exact ⟨instr_ext this.1, this.2⟩
theorem fits_ext {m : Md} {l : Int} (hf : MdFits m) (h1 : m.gs.length < 32) (h2 : m.arrays.length < 16) (h3 : m.chans.length < 16) : MdFits (extM m l) := by
  have hro : room = 140737488355328 := rfl
  refine ⟨?_, ?_, ?_, hf.fns, hf.each⟩ <;> simp only [extM, List.length_append, List.length_singleton] <;> omega
/-! ### A nop ahead of a function -/
def shI (x : Int × Int) : Int × Int := (x.1, if x.1 = 43 ∨ x.1 = 44 then x.2 + 1 else x.2)
def nopL (code : List (Int × Int)) : List (Int × Int) := (42, 0) :: code.map shI
def nopF (f : Fn) : Fn := { f with code := nopL f.code }
def nopM (m : Md) (i : Nat) : Md := { m with fns := m.fns.set i (nopF (fnOf m i)) }
theorem nop_len (code : List (Int × Int)) : (nopL code).length = code.length + 1 := by simp [nopL]
theorem fn_nop {m : Md} {i : Nat} (hi : i < m.fns.length) (j : Nat) : fnOf (nopM m i) j = if j = i then nopF (fnOf m i) else fnOf m j := by
  unfold fnOf nopM
  simp only [List.getD, Int.toNat_natCast]
  by_cases hj : j = i
  · subst hj
    rw [if_pos rfl, List.getElem?_set_self hi]
    rfl
  · rw [if_neg hj, List.getElem?_set_ne (by omega)]
theorem loc_nop {m : Md} {i : Nat} (hi : i < m.fns.length) (j : Nat) : locSpec (nopM m i) j = locSpec m j := by
  have e : (nopM m i).fns.length = m.fns.length := by simp [nopM]
  unfold locSpec
  rw [e, fn_nop hi]
  by_cases hj : j = i
  · subst hj; rw [if_pos rfl]; rfl
  · rw [if_neg hj]
theorem room_nop {m : Md} {i : Nat} (hi : i < m.fns.length) (j : Nat) (op : Int) : roomSpec (nopM m i) j op = if j = i ∧ (op = 43 ∨ op = 44) then roomSpec m j op + 1 else roomSpec m j op := by
  have e : (nopM m i).fns.length = m.fns.length := by simp [nopM]
  have e2 : (nopM m i).gs = m.gs := rfl
  have e3 : (nopM m i).arrays = m.arrays := rfl
  have e4 : (nopM m i).chans = m.chans := rfl
  unfold roomSpec
  rw [e, e2, e3, e4, loc_nop hi, fn_nop hi]
  by_cases c7 : op = 43 ∨ op = 44
  · have c1 : ¬ (1 ≤ op ∧ op ≤ 17) := by omega
    have c2 : ¬ op = 32 := by omega
    have c3 : ¬ (op = 33 ∨ op = 34) := by omega
    have c4 : ¬ (op = 35 ∨ op = 36) := by omega
    have c5 : ¬ (op = 37 ∨ op = 38) := by omega
    have c6 : ¬ (op = 39 ∨ op = 40 ∨ op = 41 ∨ op = 42 ∨ op = 46) := by omega
    simp only [if_neg c1, if_neg c2, if_neg c3, if_neg c4, if_neg c5, if_neg c6, if_pos c7]
    by_cases hj : j = i
    · subst hj
      rw [if_pos rfl, if_pos ⟨rfl, c7⟩]
      simp only [nopF, nop_len]
      omega
    · rw [if_neg hj, if_neg (fun h => hj h.1)]
  · have hne : ¬ (j = i ∧ (op = 43 ∨ op = 44)) := fun h => c7 h.2
    simp only [if_neg hne, if_neg c7]
theorem ins_nop {m : Md} {i : Nat} (hi : i < m.fns.length) (j a : Nat) : insAt (nopM m i) j a = if j = i then (nopL (fnOf m i).code).getD a (0, 0) else insAt m j a := by
  unfold insAt
  rw [fn_nop hi]
  by_cases hj : j = i
  · subst hj; rw [if_pos rfl, if_pos rfl]; rfl
  · rw [if_neg hj, if_neg hj]
theorem nop_at {code : List (Int × Int)} {a : Nat} (ha : a < code.length) : (nopL code).getD (a + 1) (0, 0) = shI (code.getD a (0, 0)) := by
  simp [nopL, List.getD, ha]
theorem good_nop {m : Md} {i : Nat} (g : Good m) (hi : i < m.fns.length) (hc : (fnOf m i).code.length < 2048) : Good (nopM m i) := by
  obtain ⟨g1, g2, g3⟩ := g
  have e : (nopM m i).fns.length = m.fns.length := by simp [nopM]
  refine ⟨?_, g2, fun j hj => ?_⟩
  · unfold manyM at g1 ⊢
    rw [e]
    exact g1
  rw [e] at hj
  obtain ⟨q1, q2⟩ := g3 j hj
  by_cases hji : j = i
  · subst hji
    have ef := fn_nop hi j
    rw [if_pos rfl] at ef
    refine ⟨?_, fun a ha => ?_⟩
    · rw [ef]
      unfold headSpec at q1 ⊢
      simp only [nopF, nop_len]
      split at q1
      · exact absurd q1 (by decide)
      · split at q1
        · exact absurd q1 (by decide)
        · rw [if_neg (by omega), if_neg (by omega), if_neg (by omega)]
    · rw [ef] at ha
      have ha' : a < (fnOf m j).code.length + 1 := by simpa [nopF, nop_len] using ha
      have el : (nopF (fnOf m j)).code.length = (fnOf m j).code.length + 1 := nop_len _
      rw [errAt_zero, ins_nop hi, if_pos rfl, ef, el, instr_zero, e, room_nop hi]
      cases a with
      | zero =>
        have h0 : (nopL (fnOf m j).code).getD 0 (0, 0) = (42, 0) := rfl
        have hr : roomSpec m j 42 = 1 := by simp [roomSpec]
        rw [h0]
        simp only [true_and]
        rw [if_neg (by omega), hr]
        have hne : (fnOf m j).code.length ≠ 0 := by
          unfold headSpec at q1
          split at q1
          · exact absurd q1 (by decide)
          · split at q1
            · exact absurd q1 (by decide)
            · split at q1
              · exact absurd q1 (by decide)
              · assumption
        refine ⟨by omega, fun h => by omega⟩
      | succ a =>
        have hal : a < (fnOf m j).code.length := by omega
        have := q2 a hal
        rw [errAt_zero, instr_zero] at this
        rw [nop_at hal]
        have ei : (fnOf m j).code.getD a (0, 0) = insAt m j a := rfl
        rw [ei]
        generalize insAt m j a = x at this
        obtain ⟨op, A⟩ := x
        simp only [shI, true_and] at this ⊢
        by_cases c : op = 43 ∨ op = 44
        · rw [if_pos c, if_pos c]
          have hR : roomSpec m j op = ((fnOf m j).code.length : Int) := by rcases c with rfl | rfl <;> simp [roomSpec]
          omega
        · rw [if_neg c, if_neg c]
          omega
  · have ef := fn_nop hi j
    rw [if_neg hji] at ef
    refine ⟨by rw [ef]; exact q1, fun a ha => ?_⟩
    rw [ef] at ha
    have := q2 a ha
    rw [errAt_zero, instr_zero] at this ⊢
    rw [ins_nop hi, if_neg hji, ef, room_nop hi, if_neg (fun h => hji h.1), e]
    exact this
theorem fits_nop {m : Md} {i : Nat} (hf : MdFits m) (hi : i < m.fns.length) (hc : (fnOf m i).code.length < 2048) : MdFits (nopM m i) := by
  have hro : room = 140737488355328 := rfl
  have e : (nopM m i).fns.length = m.fns.length := by simp [nopM]
  refine ⟨hf.gs, hf.arrays, hf.chans, by rw [e]; exact hf.fns, fun f h => ?_⟩
  rcases List.mem_or_eq_of_mem_set h with h | rfl
  · exact hf.each f h
  · have := hf.each _ (List.getElem_mem hi)
    rw [← fnOf_at hi] at this
    refine ⟨this.1, this.2.1, ?_⟩
    simp only [nopF, nop_len]
    omega
/-! ### What the walk needs -/
theorem splice_end : ∀ (new old A : List Value), new.length = old.length → splice (A ++ old) A.length new = A ++ new
  | [], [], A, _ => by simp [splice]
  | v :: new, o :: old, A, h => by
    have : splice (A ++ o :: old) A.length (v :: new) = splice ((A ++ [v]) ++ old) (A ++ [v]).length new := by
      simp only [splice, List.length_append, List.length_singleton]
      congr 1
      simp
    rw [this, splice_end new old (A ++ [v]) (by simpa using h)]
    simp
  | [], _ :: _, _, h => by simp at h
  | _ :: _, [], _, h => by simp at h
section
variable {T L : List Value} {H : AH TV} {Q : Value → AH TV → Prop}
theorem does_append_fit {s x : AM.Src} {share : Bool} {size bytes n b : Nat} {cs : List Value} {vx : Value} {new : List Value} (hs : sev T L s = some (.slice (some ⟨b, 0, none⟩) n (2 * (n + 1)))) (hx : sev T L x = some vx) (hk : alen vx = some 1) (hsrc : asrc H size 1 vx = some new) (ho : new.all oneCell = true) (hr : (n + 1) * bytes ≤ room)
    (hg : Vec.get H b = some (.arr cs true 0)) (hc : n * size + new.length ≤ cs.length) (hq : Q (.slice (some ⟨b, 0, none⟩) (n + 1) (2 * (n + 1))) (Vec.set H b (.arr (splice cs (n * size) new) true 0))) : ADoes E T L (.append share size bytes s x) H Q :=
  does_op _ _ (by
    simp only [aexec, x2, hs, hx, aappend, hk, hsrc]
    have e0 : ¬ (new.all oneCell = false ∨ room < (n + 1) * bytes) := by rw [ho]; simp; exact hr
    have e1 : n + 1 ≤ 2 * (n + 1) / 2 := by omega
    rw [if_neg e0, if_pos e1]
    simp only [aput', hg, Nat.zero_add]
    rw [if_pos ⟨Nat.zero_le _, hc, ho⟩]) hq
/-- A row of one's own that grows. -/
def AccM (H : AH TV) (sz base : Nat) (v : Value) (es : List (List Value)) : Prop :=
  Sized sz es ∧ ∃ b ce, base ≤ b ∧ v = .slice (some ⟨b, 0, none⟩) es.length ce ∧ (ce = 2 * es.length ∨ ce = 2 * es.length + 1) ∧ 0 < es.length ∧ Vec.get H b = some (.arr es.flatten true 0)
theorem AccM.row {sz base : Nat} {v : Value} {es : List (List Value)} (h : AccM H sz base v es) : RowS H v es := by
  obtain ⟨_, b, ce, h1, rfl, _, _, h3⟩ := h
  exact .inr ⟨b, 0, _, _, _, _, rfl, h3, by omega, by rw [List.drop_zero, List.take_length]⟩
theorem AccM.keep {H' : AH TV} {sz base : Nat} {v : Value} {es : List (List Value)} (h : AccM H sz base v es) (hk : ∀ j, base ≤ j → j < Vec.size H → Vec.get H' j = Vec.get H j) : AccM H' sz base v es := by
  obtain ⟨hs, b, ce, h1, h2, h3, h4, h5⟩ := h
  exact ⟨hs, b, ce, h1, h2, h3, h4, by rw [hk b h1 (Vec.get_lt _ _ _ h5)]; exact h5⟩
theorem does_append_accM {s x : AM.Src} {sz bytes base : Nat} {v vx : Value} {es : List (List Value)} {new : List Value} (hs : sev T L s = some v) (ha : AccM H sz base v es) (hx : sev T L x = some vx) (hk : alen vx = some 1) (hnew : new.length = sz) (hsrc : asrc H sz 1 vx = some new) (ho : new.all oneCell = true) (hr : (es.length + 1) * bytes ≤ room)
    (hq : ∀ v' H', AccM H' sz base v' (es ++ [new]) → (∀ j, j < base → Vec.get H' j = Vec.get H j) → Vec.size H ≤ Vec.size H' → Q v' H') (hb : base ≤ Vec.size H) : ADoes E T L (.append false sz bytes s x) H Q := by
  obtain ⟨hsz, b, ce, h1, rfl, h3, h4, h5⟩ := ha
  have hs2 : Sized sz (es ++ [new]) := hsz.append fun e he => by simp at he; subst he; exact hnew
  have hfl : (es ++ [new]).flatten = es.flatten ++ new := by simp
  have hbl := Vec.get_lt _ _ _ h5
  have hl2 : (es ++ [new]).length = es.length + 1 := by simp
  rcases h3 with rfl | rfl
  · refine does_append_grow hs h4 hx hk (by omega) hsrc ho hr h5 hsz.flat.symm (hq _ _ ⟨hs2, Vec.size H, 2 * (es.length + 1), hb, by rw [hl2], .inl (by rw [hl2]), by omega, ?_⟩ (fun j hj => ?_) ?_)
    · have := get_anew_same (Vec.set H b .dead) (es.flatten ++ new)
      rw [Vec.size_set] at this
      rw [hfl]; exact this
    · rw [get_anew_lt (by rw [Vec.size_set]; omega), get_set_ne (by omega)]
    · rw [size_anew, Vec.size_set]; omega
  · refine does_op (.slice (some ⟨Vec.size H, 0, none⟩) (es.length + 1) (2 * (es.length + 1))) (anew H (es.flatten ++ new)) (by
      simp only [aexec, x2, hs, hx, aappend, hk, hsrc]
      have e0 : ¬ (new.all oneCell = false ∨ room < (es.length + 1) * bytes) := by rw [ho]; simp; exact hr
      have e1 : ¬ es.length + 1 ≤ (2 * es.length + 1) / 2 := by omega
      have e3 : 0 + es.length * sz ≤ es.flatten.length := by rw [hsz.flat]; omega
      have e4 : (2 * es.length + 1) % 2 = 1 := by omega
      rw [if_neg e0, if_neg e1, if_neg (by omega)]
      simp only [h5]
      rw [if_pos e3, if_pos e4, List.drop_zero, ← hsz.flat, List.take_length]) (hq _ _ ⟨hs2, Vec.size H, 2 * (es.length + 1), hb, by rw [hl2], .inl (by rw [hl2]), by omega, ?_⟩ (fun j hj => get_anew_lt (by omega)) (by rw [size_anew]; omega))
    rw [hfl]; exact get_anew_same _ _
end
theorem set_flatten {sz : Nat} : ∀ {es : List (List Value)} {i j : Nat} {v : Value} (h : Sized sz es) (hi : i < es.length) (hj : j < sz), es.flatten.set (i * sz + j) v = (es.set i (es[i].set j v)).flatten
  | [], _, _, _, _, hi, _ => by simp at hi
  | e :: es, 0, j, v, h, _, hj => by
    have he : e.length = sz := h e List.mem_cons_self
    simp only [Nat.zero_mul, Nat.zero_add, List.flatten_cons, List.set_cons_zero, List.getElem_cons_zero]
    rw [List.set_append_left _ _ (by omega)]
  | e :: es, i + 1, j, v, h, hi, hj => by
    have he : e.length = sz := h e List.mem_cons_self
    have hs : Sized sz es := fun x hx => h x (List.mem_cons_of_mem _ hx)
    have hi' : i < es.length := by simpa using hi
    simp only [List.flatten_cons, List.set_cons_succ, List.getElem_cons_succ]
    have e1 : (i + 1) * sz + j = e.length + (i * sz + j) := by rw [he, Nat.add_mul]; omega
    rw [List.set_append_right _ _ (by omega), e1, Nat.add_sub_cancel_left, set_flatten hs hi' hj]
/-- The functions' row is none of what was lent. -/
theorem lentF_ne {H : AH TV} {b : Nat} {l : List Int} {es : List (List Value)} (h : Lent H b l) (h2 : Vec.get H b = some (.arr (es ++ [markF]).flatten true 0)) : False := by
  unfold Lent at h
  rw [h] at h2
  simp only [Option.some.injEq, Blk.arr.injEq, and_true] at h2
  have : Value.int .i64 (-71) ∈ cellsU l ++ [.int .u64 7171] := by rw [h2]; simp [markF]
  simp [cellsU] at this
theorem lentFC_ne {H : AH TV} {b : Nat} {l : List (Int × Int)} {es : List (List Value)} (h : LentC H b l) (h2 : Vec.get H b = some (.arr (es ++ [markF]).flatten true 0)) : False := by
  unfold LentC at h
  rw [h] at h2
  simp only [Option.some.injEq, Blk.arr.injEq, and_true] at h2
  have : Value.int .u64 0 ∈ (cellsC l ++ [markC]).flatten := by rw [h2]; simp [markF]
  simp [cellsC, markC] at this
  obtain ⟨a, ⟨x, y, h1, rfl⟩, h3⟩ := this
  simp at h3
theorem LFn.apart {H H' : AH TV} {bf : Nat} {e : List Value} {f : Fn} {es : List (List Value)} (h : LFn H none e f) (hb : Vec.get H bf = some (.arr (es ++ [markF]).flatten true 0)) (k : ∀ j, j < Vec.size H → j ≠ bf → Vec.get H' j = Vec.get H j) : LFn H' none e f := by
  obtain ⟨b1, b2, b3, rfl, h1, h2, h3, _⟩ := h
  exact ⟨b1, b2, b3, rfl, (k b1 (Vec.get_lt _ _ _ h1) (fun e => by subst e; exact lentF_ne h1 hb)).trans h1, (k b2 (Vec.get_lt _ _ _ h2) (fun e => by subst e; exact lentF_ne h2 hb)).trans h2, (k b3 (Vec.get_lt _ _ _ h3) (fun e => by subst e; exact lentFC_ne h3 hb)).trans h3, by simp, by simp, by simp⟩
theorem fault_eql (a b c a' b' c' : Int) (x y : Operand) : aflat Try.prog (.bin .eql 43 x y) [.agg #[.int .i64 a, .int .i64 b, .int .i64 c], .agg #[.int .i64 a, .int .i64 b, .int .i64 c]] = some (.bool true) := fault_eq a b c x y
end Go.Proofs.Ytnngilpiajgobaa.Shape
