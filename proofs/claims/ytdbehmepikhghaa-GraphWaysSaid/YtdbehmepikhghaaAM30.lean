/- Rows of elements of several cells: reading, copying, pushing. -/
import Derived.Test.YtdbehmepikhghaaAM28
set_option linter.unusedVariables false
set_option linter.unusedSimpArgs false
namespace Go.Proofs.Ytdbehmepikhghaa.AM
section
variable {V : Type → Type} [Vec V] {E : Env V} {T : AT} {L : List Value} {H H' : AH V} {Q : Value → AH V → Prop} {sz : Nat}
def Sized (sz : Nat) (es : List (List Value)) : Prop := ∀ e ∈ es, e.length = sz
theorem Sized.flat {es : List (List Value)} (h : Sized sz es) : es.flatten.length = es.length * sz := by
  induction es with
  | nil => simp
  | cons e es ih =>
    have h1 := h e (List.mem_cons_self ..)
    have h2 := ih (fun x hx => h x (List.mem_cons_of_mem _ hx))
    rw [List.flatten_cons, List.length_append, h1, h2, List.length_cons, Nat.add_mul]
    omega
theorem Sized.append {a b : List (List Value)} (h : Sized sz a) (k : Sized sz b) : Sized sz (a ++ b) := fun e he => by
  rcases List.mem_append.1 he with x | x
  · exact h e x
  · exact k e x
theorem Sized.at {es : List (List Value)} (h : Sized sz es) {i : Nat} (hi : i < es.length) : (es.flatten.drop (i * sz)).take sz = es[i] := by
  induction es generalizing i with
  | nil => simp at hi
  | cons e es ih =>
    have h1 := h e (List.mem_cons_self ..)
    cases i with
    | zero => simp [h1]
    | succ i =>
      rw [List.flatten_cons, List.drop_append, List.drop_eq_nil_of_le (by rw [h1, Nat.add_mul]; omega), List.nil_append, h1, show (i + 1) * sz - sz = i * sz by rw [Nat.add_mul]; omega]
      rw [ih (fun x hx => h x (List.mem_cons_of_mem _ hx)) (by simpa using hi)]
      rfl
/-- A slice, and its elements. -/
def RowS (H : AH V) (v : Value) (es : List (List Value)) : Prop :=
  (nilish v ∧ es = []) ∨ ∃ b off ce blk w lo, v = .slice (some ⟨b, off, none⟩) es.length ce ∧ Vec.get H b = some (.arr blk w lo) ∧ off + es.flatten.length ≤ blk.length ∧ (blk.drop off).take es.flatten.length = es.flatten
theorem RowS.ext {v : Value} {es : List (List Value)} (h : RowS H v es) (he : Keeps H H') : RowS H' v es := by
  rcases h with h | ⟨b, off, ce, blk, w, lo, h1, h2, h3⟩
  · exact .inl h
  · exact .inr ⟨b, off, ce, blk, w, lo, h1, he.some h2, h3⟩
theorem RowS.len {v : Value} {es : List (List Value)} (h : RowS H v es) : ∃ a ce, v = .slice a es.length ce := by
  rcases h with ⟨h, rfl⟩ | ⟨b, off, ce, blk, w, lo, rfl, _⟩
  · obtain ⟨a, rfl⟩ := h.eq; exact ⟨_, _, rfl⟩
  · exact ⟨_, _, rfl⟩
theorem RowS.alen {v : Value} {es : List (List Value)} (h : RowS H v es) : alen v = some es.length := by
  obtain ⟨a, ce, rfl⟩ := h.len; rfl
theorem RowS.slice {v : Value} {es : List (List Value)} (h : RowS H v es) : veq v v = true ∧ oneCell v = true := by
  obtain ⟨a, ce, rfl⟩ := h.len
  exact ⟨veq_slice _ _ _, rfl⟩
theorem RowS.at {v : Value} {es : List (List Value)} (h : RowS H v es) (hs : Sized sz es) {i : Nat} (hi : i < es.length) : ∃ b off ce blk w lo, v = .slice (some ⟨b, off, none⟩) es.length ce ∧ Vec.get H b = some (.arr blk w lo) ∧
    (blk.drop (off + i * sz)).take sz = es[i] ∧ off + i * sz + sz ≤ blk.length := by
  rcases h with ⟨_, rfl⟩ | ⟨b, off, ce, blk, w, lo, rfl, h2, h3, h4⟩
  · simp at hi
  · have hl := hs.flat
    have hle : i * sz + sz ≤ es.length * sz := by
      have := Nat.mul_le_mul_right sz (show i + 1 ≤ es.length by omega)
      rw [Nat.add_mul] at this; omega
    refine ⟨b, off, ce, blk, w, lo, rfl, h2, ?_, by omega⟩
    rw [← hs.at hi]
    conv => rhs; rw [← h4]
    rw [List.drop_take, List.take_take, List.drop_drop, Nat.min_eq_left (by omega)]
theorem RowS.src {v : Value} {es : List (List Value)} (h : RowS H v es) (hs : Sized sz es) : asrc H sz es.length v = some es.flatten := by
  rcases h with ⟨h, rfl⟩ | ⟨b, off, ce, blk, w, lo, rfl, h2, h3, h4⟩
  · exact h.src sz
  · rw [hs.flat] at h3 h4
    simp only [asrc, arow, h2]
    rw [if_pos h3, h4]
theorem acells_some {cs : List Value} {n off : Nat} {e : List Value} (h : (cs.drop off).take n = e) (hl : off + n ≤ cs.length) : acells cs (some n) off = some (.agg e.toArray) := by
  simp only [acells, if_pos hl, h]
theorem acells_at {cs : List Value} {n off : Nat} {e : List Value} (h : (cs.drop off).take n = e) {j : Nat} {v : Value} (hj : e[j]? = some v) : acells cs none (off + j) = some v := by
  show cs[off + j]? = some v
  subst h
  rw [List.getElem?_take] at hj
  split at hj
  · rw [List.getElem?_drop] at hj; exact hj
  · cases hj
/-- What was appended one by one. -/
def AccS (H : AH V) (sz base : Nat) (v : Value) (es : List (List Value)) : Prop :=
  Sized sz es ∧ ((v = .slice none 0 0 ∧ es = []) ∨ ∃ b, base ≤ b ∧ v = .slice (some ⟨b, 0, none⟩) es.length (2 * es.length) ∧ 0 < es.length ∧ Vec.get H b = some (.arr es.flatten true 0))
theorem AccS.nil (H : AH V) (sz base : Nat) : AccS H sz base (.slice none 0 0) [] := ⟨fun e h => (by cases h), .inl ⟨rfl, rfl⟩⟩
theorem AccS.row {base : Nat} {v : Value} {es : List (List Value)} (h : AccS H sz base v es) : RowS H v es := by
  rcases h.2 with ⟨rfl, h0⟩ | ⟨b, h1, rfl, h2, h3⟩
  · exact .inl ⟨.inl rfl, h0⟩
  · exact .inr ⟨b, 0, _, _, _, _, rfl, h3, by omega, by rw [List.drop_zero, List.take_length]⟩
theorem AccS.keep {base : Nat} {v : Value} {es : List (List Value)} (h : AccS H sz base v es) (hk : ∀ j, base ≤ j → j < Vec.size H → Vec.get H' j = Vec.get H j) : AccS H' sz base v es := by
  refine ⟨h.1, ?_⟩
  rcases h.2 with h | ⟨b, h1, rfl, h2, h3⟩
  · exact .inl h
  · exact .inr ⟨b, h1, rfl, h2, by rw [hk b h1 (Vec.get_lt _ _ _ h3)]; exact h3⟩
theorem AccS.val {base : Nat} {v : Value} {es : List (List Value)} (h : AccS H sz base v es) : ∃ a n c, v = .slice a n c := by
  rcases h.2 with ⟨rfl, _⟩ | ⟨b, _, rfl, _⟩
  · exact ⟨_, _, _, rfl⟩
  · exact ⟨_, _, _, rfl⟩
theorem does_append_accS {s x : Src} {bytes base : Nat} {v vx : Value} {es new : List (List Value)} (hs : sev T L s = some v) (ha : AccS H sz base v es) (hx : sev T L x = some vx) (hk : alen vx = some new.length) (hk0 : 0 < new.length) (hnew : Sized sz new) (hsrc : asrc H sz new.length vx = some new.flatten) (ho : new.flatten.all oneCell = true) (hr : (es.length + new.length) * bytes ≤ room) (hb : base ≤ Vec.size H)
    (hq : ∀ v' H', AccS H' sz base v' (es ++ new) → (∀ j, j < base → Vec.get H' j = Vec.get H j) → Vec.size H ≤ Vec.size H' → Q v' H') : ADoes E T L (.append false sz bytes s x) H Q := by
  obtain ⟨hsz, ha⟩ := ha
  rcases ha with ⟨rfl, rfl⟩ | ⟨b, h1, rfl, h2, h3⟩
  · refine does_append_nil hs hx hk hk0 hsrc ho (by simpa using hr) (hq _ _ ⟨by simpa using hnew, .inr ⟨Vec.size H, hb, by simp, by simpa using hk0, by rw [get_anew_same]; simp⟩⟩ (fun j hj => get_anew_lt (by omega)) (by rw [size_anew]; omega))
  · have hbl := Vec.get_lt _ _ _ h3
    refine does_append_grow hs h2 hx hk hk0 hsrc ho hr h3 hsz.flat.symm (hq _ _ ⟨hsz.append hnew, .inr ⟨Vec.size H, hb, by rw [List.length_append], by rw [List.length_append]; omega, ?_⟩⟩ (fun j hj => ?_) ?_)
    · have := get_anew_same (Vec.set H b .dead) (es.flatten ++ new.flatten)
      rw [Vec.size_set] at this
      rw [List.flatten_append]; exact this
    · rw [get_anew_lt (by rw [Vec.size_set]; omega), get_set_ne (by omega)]
    · rw [size_anew, Vec.size_set]; omega
/-- A whole row appended to nothing. -/
theorem does_append_allS {s x : Src} {bytes : Nat} {vx : Value} {new : List (List Value)} (hs : sev T L s = some (.slice none 0 0)) (hx : sev T L x = some vx) (hrow : RowS H vx new) (hnew : Sized sz new) (ho : new.flatten.all oneCell = true) (hr : new.length * bytes ≤ room)
    (hq : ∀ v' H', AccS H' sz (Vec.size H) v' new → Keeps H H' → Q v' H') : ADoes E T L (.append false sz bytes s x) H Q := by
  by_cases h0 : new.length = 0
  · have hnil : new = [] := List.eq_nil_of_length_eq_zero h0
    subst hnil
    exact does_append_none hs hx hrow.alen (hrow.src hnew) (hq _ _ (AccS.nil _ _ _) (.refl _))
  · exact does_append_accS hs (AccS.nil _ _ _) hx hrow.alen (by omega) hnew (hrow.src hnew) ho (by simpa using hr) (Nat.le_refl _) fun v' H' h1 h2 h3 => hq _ _ (by simpa using h1) ⟨h3, h2⟩
/-- The same; 'ob' tells its block. -/
def AccB (H : AH V) (sz : Nat) (ob : Option Nat) (v : Value) (es : List (List Value)) : Prop :=
  Sized sz es ∧ ((ob = none ∧ v = .slice none 0 0 ∧ es = []) ∨ ∃ b, ob = some b ∧ v = .slice (some ⟨b, 0, none⟩) es.length (2 * es.length) ∧ 0 < es.length ∧ Vec.get H b = some (.arr es.flatten true 0))
theorem AccB.nil (H : AH V) (sz : Nat) : AccB H sz none (.slice none 0 0) [] := ⟨fun e h => (by cases h), .inl ⟨rfl, rfl, rfl⟩⟩
theorem AccB.keep {ob : Option Nat} {v : Value} {es : List (List Value)} (h : AccB H sz ob v es) (hk : ∀ j, j < Vec.size H → Vec.get H' j = Vec.get H j) : AccB H' sz ob v es := by
  refine ⟨h.1, ?_⟩
  rcases h.2 with h | ⟨b, h1, rfl, h2, h3⟩
  · exact .inl h
  · exact .inr ⟨b, h1, rfl, h2, by rw [hk b (Vec.get_lt _ _ _ h3)]; exact h3⟩
theorem AccB.lt {ob : Option Nat} {v : Value} {es : List (List Value)} (h : AccB H sz ob v es) {b : Nat} (hb : ob = some b) : b < Vec.size H := by
  rcases h.2 with ⟨h, _⟩ | ⟨b', h1, _, _, h3⟩
  · rw [h] at hb; cases hb
  · rw [h1] at hb; cases hb; exact Vec.get_lt _ _ _ h3
theorem AccB.row {ob : Option Nat} {v : Value} {es : List (List Value)} (h : AccB H sz ob v es) : RowS H v es := by
  rcases h.2 with ⟨_, rfl, h0⟩ | ⟨b, h1, rfl, h2, h3⟩
  · exact .inl ⟨.inl rfl, h0⟩
  · exact .inr ⟨b, 0, _, _, _, _, rfl, h3, by omega, by rw [List.drop_zero, List.take_length]⟩
theorem does_append_accB {s x : Src} {bytes : Nat} {ob : Option Nat} {v vx : Value} {es new : List (List Value)} (hs : sev T L s = some v) (ha : AccB H sz ob v es) (hx : sev T L x = some vx) (hk : alen vx = some new.length) (hk0 : 0 < new.length) (hnew : Sized sz new) (hsrc : asrc H sz new.length vx = some new.flatten) (ho : new.flatten.all oneCell = true) (hr : (es.length + new.length) * bytes ≤ room)
    (hq : ∀ v' H', AccB H' sz (some (Vec.size H)) v' (es ++ new) → (∀ j, j < Vec.size H → some j ≠ ob → Vec.get H' j = Vec.get H j) → Vec.size H < Vec.size H' → Q v' H') : ADoes E T L (.append false sz bytes s x) H Q := by
  obtain ⟨hsz, ha⟩ := ha
  rcases ha with ⟨rfl, rfl, rfl⟩ | ⟨b, rfl, rfl, h2, h3⟩
  · refine does_append_nil hs hx hk hk0 hsrc ho (by simpa using hr) (hq _ _ ⟨by simpa using hnew, .inr ⟨Vec.size H, rfl, by simp, by simpa using hk0, by rw [get_anew_same]; simp⟩⟩ (fun j hj _ => get_anew_lt hj) (by rw [size_anew]; omega))
  · have hbl := Vec.get_lt _ _ _ h3
    refine does_append_grow hs h2 hx hk hk0 hsrc ho hr h3 hsz.flat.symm (hq _ _ ⟨hsz.append hnew, .inr ⟨Vec.size H, rfl, by rw [List.length_append], by rw [List.length_append]; omega, ?_⟩⟩ (fun j hj hn => ?_) ?_)
    · have := get_anew_same (Vec.set H b .dead) (es.flatten ++ new.flatten)
      rw [Vec.size_set] at this
      rw [List.flatten_append]; exact this
    · rw [get_anew_lt (by rw [Vec.size_set]; omega), get_set_ne (fun h => hn (by rw [h]))]
    · rw [size_anew, Vec.size_set]; omega
end
end Go.Proofs.Ytdbehmepikhghaa.AM
