/- The compiled order's states: sizes, heaps behind effects, who told what. -/
import Derived.Test.YtdbehmepikhghaaAM17
set_option linter.unusedVariables false
set_option linter.unusedSimpArgs false
namespace Go.Proofs.Ytdbehmepikhghaa.AM
section
variable {P : Program} {V : Type → Type} [Vec V] {share : Bool} {ops : Array Oper} {call : Value → List Value → AH V → Option (Value × AH V)} {T : AT} {keep ord effs : List Nat} {S : Nat → CS V}

theorem mapM_isEff {α β : Type} {f : α → Option β} {op : AOp α} {op' : AOp β} (h : op.mapM f = some op') : isEff op' = isEff op := by
  cases op <;> simp only [AOp.mapM] at h <;>
    (first
      | (cases h; rfl)
      | (obtain ⟨y, h1, rfl⟩ := m1_some h; rfl)
      | (obtain ⟨y, z, h1, h2, rfl⟩ := m2_some h; rfl)
      | (obtain ⟨y, z, u, h1, h2, h3, rfl⟩ := m3_some h; rfl)
      | (split at h <;> (first | (cases h; done) | (injection h with h; subst h; rfl))))
theorem aexec_calm {χ : Type} {op : AOp χ} {ev : χ → Option Value} {H H' : AH V} {v : Value} (he : isEff op = false) (hx : aexec P call op ev H = some (v, H')) : H' = H ∨ ∃ cs, H' = anew H cs := by
  cases op <;> (try (cases he; done)) <;> simp only [aexec] at hx <;> (first | (exact .inl (withH_some hx).2) | skip)
  case alloc cs =>
    simp only [newPtr, Option.some.injEq, Prod.mk.injEq] at hx
    exact .inr ⟨_, hx.2.symm⟩
  case box x =>
    obtain ⟨a, _, hf⟩ := x1_some hx
    unfold fBox at hf
    split at hf
    · simp only [newPtr, Option.some.injEq, Prod.mk.injEq] at hf
      exact .inr ⟨_, hf.2.symm⟩
    · cases hf
  case mkarr n cs ps =>
    unfold xMkarr at hx
    split at hx
    · split at hx
      · split at hx
        · simp only [Option.some.injEq, Prod.mk.injEq] at hx
          exact .inr ⟨_, hx.2.symm⟩
        · cases hx
      · cases hx
    · cases hx
  case mkslice z b l c =>
    obtain ⟨a, b, _, _, hf⟩ := x2_some hx
    unfold amkslice at hf
    split at hf
    · split at hf
      · simp only [Option.some.injEq, Prod.mk.injEq] at hf
        exact .inr ⟨_, hf.2.symm⟩
      · cases hf
    · cases hf

structure Canon (P : Program) (share : Bool) (ops : Array Oper) (call : Value → List Value → AH V → Option (Value × AH V)) (T : AT) (keep ord effs : List Nat) (S : Nat → CS V) : Prop where
  plan : Plan ops (· ∈ effs) ord
  step : ∀ (k i : Nat) (o : Oper), ord[k]? = some i → ops[i]? = some o →
    CStep P share ops call T o ((ord.filter fun e => effs.contains e && ((aheadOf ops.toList).getD i []).contains e).length) (S k) (S (k + 1)) ∧ Def (S (k + 1)).m T (S (k + 1)).L ∧ oval T (S (k + 1)).L (S (k + 1)).y = some (S (k + 1)).v
  m0 : (S 0).m = entry keep
  L0 : (S 0).L = []
  G0 : (S 0).G = [(S 0).H]
  eff : ∀ (i : Nat) (o : Oper), ops[i]? = some o → (i ∈ effs ↔ isEff (compileOp P share o) = true)
theorem Canon.at (C : Canon P share ops call T keep ord effs S) {k : Nat} (h : k < ord.length) : ∃ i o, ord[k]? = some i ∧ ops[i]? = some o := by
  have h1 : ord[k]? = some ord[k] := List.getElem?_eq_getElem h
  have h2 := C.plan.lt _ (List.mem_iff_getElem?.2 ⟨k, h1⟩)
  exact ⟨_, _, h1, Array.getElem?_eq_getElem h2⟩
theorem Canon.size1 (C : Canon P share ops call T keep ord effs S) {k : Nat} (h : k < ord.length) : Vec.size (S k).H ≤ Vec.size (S (k + 1)).H := by
  obtain ⟨i, o, h1, h2⟩ := C.at h
  cases (C.step k i o h1 h2).1 with
  | other _ _ _ _ _ _ hH _ => rw [hH]; exact Nat.le_refl _
  | skip _ _ _ _ _ _ hH _ => rw [hH]; exact Nat.le_refl _
  | exec _ _ _ _ _ _ _ hsz _ => exact hsz
theorem Canon.size (C : Canon P share ops call T keep ord effs S) {k : Nat} : ∀ {k' : Nat}, k ≤ k' → k' ≤ ord.length → Vec.size (S k).H ≤ Vec.size (S k').H
  | 0, h, _ => by rw [show k = 0 by omega]; exact Nat.le_refl _
  | k' + 1, h, hl => by
    by_cases e : k = k' + 1
    · rw [e]; exact Nat.le_refl _
    · exact Nat.le_trans (Canon.size C (by omega) (by omega)) (C.size1 (by omega))
/-- A step that is no effect. -/
theorem Canon.calm (C : Canon P share ops call T keep ord effs S) {k i : Nat} (h : ord[k]? = some i) (he : i ∉ effs) : ((S (k + 1)).H = (S k).H ∨ ∃ cs, (S (k + 1)).H = anew (S k).H cs) ∧ (S (k + 1)).G = (S k).G := by
  have hlt : k < ord.length := (List.getElem?_eq_some_iff.1 h).1
  obtain ⟨i', o, h1, h2⟩ := C.at hlt
  rw [h] at h1
  cases h1
  have hne : isEff (compileOp P share o) = false := by
    rw [← Bool.not_eq_true]
    exact fun hh => he ((C.eff i o h2).2 hh)
  cases (C.step k i o h h2).1 with
  | other _ _ _ _ _ _ hH hG => exact ⟨.inl hH, hG⟩
  | skip hop _ _ _ _ _ hH hG => exact ⟨.inl hH, by rw [hG, mapM_isEff hop, hne]; rfl⟩
  | exec hop _ hx _ _ _ _ _ hG => exact ⟨aexec_calm (by rw [mapM_isEff hop]; exact hne) hx, by rw [hG, mapM_isEff hop, hne]; rfl⟩
theorem Canon.act (C : Canon P share ops call T keep ord effs S) {k i : Nat} (h : ord[k]? = some i) (he : i ∈ effs) : (S (k + 1)).G = (S (k + 1)).H :: (S k).G := by
  have hlt : k < ord.length := (List.getElem?_eq_some_iff.1 h).1
  obtain ⟨i', o, h1, h2⟩ := C.at hlt
  rw [h] at h1
  cases h1
  have hne : isEff (compileOp P share o) = true := (C.eff i o h2).1 he
  cases (C.step k i o h h2).1 with
  | other hg hc _ _ _ _ hH hG => rw [hc] at hne; cases hne
  | skip hop _ _ _ _ _ hH hG => rw [hG, mapM_isEff hop, hne, hH]; rfl
  | exec hop _ hx _ _ _ _ _ hG => rw [hG, mapM_isEff hop, hne]; rfl
def Ext (A B : AH V) : Prop := ∀ b x, Vec.get A b = some x → Vec.get B b = some x
theorem ext_anew {A B : AH V} (h : Ext A B) (cs : List Value) : Ext A (anew B cs) := fun b x hb => by
  have h1 := h b x hb
  have := Vec.get_lt B b x h1
  rw [anew_eq, Vec.get_push, if_neg (by omega)]
  exact h1
theorem Canon.head (C : Canon P share ops call T keep ord effs S) : ∀ {k : Nat}, k ≤ ord.length → ∃ g r, (S k).G = g :: r ∧ Ext g (S k).H
  | 0, _ => ⟨_, [], C.G0, fun _ _ h => h⟩
  | k + 1, hl => by
    obtain ⟨g, r, h1, h2⟩ := Canon.head C (k := k) (by omega)
    obtain ⟨i, o, q1, q2⟩ := C.at (k := k) (by omega)
    by_cases he : i ∈ effs
    · exact ⟨_, _, C.act q1 he, fun _ _ h => h⟩
    · obtain ⟨h3, h4⟩ := C.calm q1 he
      refine ⟨g, r, by rw [h4, h1], ?_⟩
      rcases h3 with h3 | ⟨cs, h3⟩
      · rw [h3]; exact h2
      · rw [h3]; exact ext_anew h2 cs
theorem Canon.glen (C : Canon P share ops call T keep ord effs S) : ∀ {k : Nat}, k ≤ ord.length → (S k).G.length = 1 + ((ord.take k).filter fun e => effs.contains e).length
  | 0, _ => by rw [C.G0]; simp
  | k + 1, hl => by
    have ih := Canon.glen C (k := k) (by omega)
    obtain ⟨i, o, q1, q2⟩ := C.at (k := k) (by omega)
    have ht : ord.take (k + 1) = ord.take k ++ [i] := by rw [List.take_add_one, q1]; rfl
    rw [ht, List.filter_append, List.length_append]
    by_cases he : i ∈ effs
    · rw [C.act q1 he, List.length_cons, ih]
      have : effs.contains i = true := by simpa using he
      simp only [List.filter_cons, this, if_true, List.filter_nil, List.length_cons, List.length_nil]
      omega
    · rw [(C.calm q1 he).2, ih]
      have : effs.contains i = false := by simpa using he
      simp only [List.filter_cons, this, Bool.false_eq_true, if_false, List.filter_nil, List.length_nil, Nat.add_zero]
/-- From one place to a later one. -/
theorem Canon.between (C : Canon P share ops call T keep ord effs S) {f : Nat} : ∀ {k : Nat}, f ≤ k → k ≤ ord.length → ∃ pre, (S k).G = pre ++ (S f).G ∧ (pre = [] →
    (∀ b, b < Vec.size (S f).H → Vec.get (S k).H b = Vec.get (S f).H b) ∧
    (∀ b, Vec.size (S f).H ≤ b → b < Vec.size (S k).H → ∃ k1 cs, f ≤ k1 ∧ k1 < k ∧ b = Vec.size (S k1).H ∧ (S (k1 + 1)).H = anew (S k1).H cs ∧ Vec.get (S k).H b = some (.arr cs true 0)))
  | 0, h, _ => by
    rw [show f = 0 by omega]
    exact ⟨[], rfl, fun _ => ⟨fun _ _ => rfl, fun b h1 h2 => by omega⟩⟩
  | k + 1, h, hl => by
    by_cases e : f = k + 1
    · rw [e]
      exact ⟨[], rfl, fun _ => ⟨fun _ _ => rfl, fun b h1 h2 => by omega⟩⟩
    · obtain ⟨pre, h1, h2⟩ := Canon.between C (f := f) (k := k) (by omega) (by omega)
      obtain ⟨i, o, q1, q2⟩ := C.at (k := k) (by omega)
      by_cases he : i ∈ effs
      · refine ⟨(S (k + 1)).H :: pre, by rw [C.act q1 he, h1]; rfl, fun hq => by cases hq⟩
      · obtain ⟨h3, h4⟩ := C.calm q1 he
        refine ⟨pre, by rw [h4, h1], fun hq => ?_⟩
        obtain ⟨g1, g2⟩ := h2 hq
        have hsz := C.size (k := f) (k' := k) (by omega) (by omega)
        rcases h3 with h3 | ⟨cs, h3⟩
        · rw [h3]
          exact ⟨g1, fun b b1 b2 => let ⟨k1, cs, x1, x2, x3⟩ := g2 b b1 b2; ⟨k1, cs, x1, by omega, x3⟩⟩
        · refine ⟨fun b hb => ?_, fun b b1 b2 => ?_⟩
          · rw [h3, anew_eq, Vec.get_push, if_neg (by omega)]
            exact g1 b hb
          · rw [h3, anew_eq, Vec.size_push] at b2
            by_cases eb : b = Vec.size (S k).H
            · exact ⟨k, cs, by omega, by omega, eb, h3, by rw [h3, anew_eq, Vec.get_push, if_pos eb]⟩
            · obtain ⟨k1, cs', x1, x2, x3, x4, x5⟩ := g2 b b1 (by omega)
              exact ⟨k1, cs', x1, by omega, x3, x4, by rw [h3, anew_eq, Vec.get_push, if_neg eb]; exact x5⟩
/-- The temporary that the operation at a place tells. -/
def dstAt (ops : Array Oper) (ord : List Nat) (k : Nat) : Option Nat := ((ord[k]?).bind (ops[·]?)).bind (·.dst)
theorem dstAt_eq {k i : Nat} {o : Oper} (h1 : ord[k]? = some i) (h2 : ops[i]? = some o) : dstAt ops ord k = o.dst := by simp [dstAt, h1, h2]
theorem Canon.next (C : Canon P share ops call T keep ord effs S) {k i : Nat} {o : Oper} (h1 : ord[k]? = some i) (h2 : ops[i]? = some o) : (S (k + 1)).m = setOrg (S k).m o.dst (S (k + 1)).y ∧ ∀ x u, oval T (S k).L x = some u → oval T (S (k + 1)).L x = some u := by
  cases (C.step k i o h1 h2).1 with
  | other _ _ _ _ hm hL _ _ => exact ⟨hm, fun x u h => by rw [hL]; exact h⟩
  | skip _ _ _ _ hm hL _ _ => exact ⟨hm, fun x u h => by rw [hL]; exact oval_cons _ h⟩
  | exec _ _ _ _ hm hL _ _ _ => exact ⟨hm, fun x u h => by rw [hL]; exact oval_cons _ h⟩
/-- Where what is told of a temporary comes from. -/
theorem Canon.env (C : Canon P share ops call T keep ord effs S) : ∀ {k : Nat}, k ≤ ord.length → ∀ t x, (S k).m.find t = some x →
    (∃ k', k' < k ∧ dstAt ops ord k' = some t ∧ (∀ k'', k' < k'' → k'' < k → dstAt ops ord k'' ≠ some t) ∧ oval T (S k).L x = some (S (k' + 1)).v) ∨
    ((∀ k', k' < k → dstAt ops ord k' ≠ some t) ∧ ∃ i, keep.idxOf? t = some i ∧ x = .tmp i)
  | 0, _, t, x, h => by
    rw [C.m0, find_entry] at h
    cases hi : keep.idxOf? t with
    | none => rw [hi] at h; cases h
    | some i =>
      rw [hi] at h
      injection h with h
      exact .inr ⟨fun k' hk => by omega, i, rfl, h.symm⟩
  | k + 1, hl, t, x, h => by
    obtain ⟨i, o, q1, q2⟩ := C.at (k := k) (by omega)
    obtain ⟨hm, hL⟩ := C.next q1 q2
    have hd := dstAt_eq (ops := ops) q1 q2
    rw [hm, find_setOrg] at h
    split at h
    · rename_i hdst
      injection h with h
      subst h
      exact .inl ⟨k, by omega, by rw [hd]; exact hdst, fun k'' a b => by omega, (C.step k i o q1 q2).2.2⟩
    · rename_i hdst
      rcases Canon.env C (k := k) (by omega) t x h with ⟨k', h1, h2, h3, h4⟩ | ⟨h1, h2⟩
      · refine .inl ⟨k', by omega, h2, fun k'' a b => ?_, hL _ _ h4⟩
        by_cases e : k'' = k
        · subst e; rw [hd]; exact hdst
        · exact h3 k'' a (by omega)
      · refine .inr ⟨fun k' a => ?_, h2⟩
        by_cases e : k' = k
        · subst e; rw [hd]; exact hdst
        · exact h1 k' (by omega)
end
end Go.Proofs.Ytdbehmepikhghaa.AM
