/- The relation of worlds, and what keeps it: reading, new blocks, stores, blocks that die. -/
import Derived.Test.YtdbehmepikhghaaAM2
set_option linter.unusedVariables false
set_option linter.unusedSimpArgs false
namespace Go.Proofs.Ytdbehmepikhghaa.AM

def AE.code : AE → Code
  | .norm => .skip
  | .exit id => .exit id
  | .goto l => .goto l
  | .ret => .ret
/-- The kept temporaries hold what they should. -/
def TRel (ρ : Rho) (keep : List Nat) (T : List Value) (tmps : Array Value) : Prop :=
  ∀ t i, keep.idxOf? t = some i → ∃ v v', T[i]? = some v ∧ tmps[t]? = some v' ∧ VRel ρ v v'
theorem TRel.mono {ρ ρ' : Rho} (h : ρ.le ρ') {keep : List Nat} {T : List Value} {tmps : Array Value} (k : TRel ρ keep T tmps) : TRel ρ' keep T tmps := fun t i hi =>
  let ⟨v, v', a, b, c⟩ := k t i hi; ⟨v, v', a, b, c.mono h⟩

def BRel (P : Program) (X : Nat → Option Obj) (ρ : Rho) (w : World) (p : Nat × Nat) : Blk → Prop
  | .dead => True
  | .arr cs wr _ => ∃ c e fr, w.heap[p.1]? = some (.cells c e fr) ∧ p.2 + cs.length ≤ c.size ∧
      (∀ (i : Nat) (v : Value), cs[i]? = some v → ∃ v', c[p.2 + i]? = some v' ∧ VRel ρ v v') ∧
      (wr = true → X p.1 = none ∧ ∀ o, o < c.size → ¬ (fr.1 ≤ o ∧ o < fr.2))
  | .loop T ps as_ bd st pe => X p.1 = none ∧ ∃ (r : Loop) (share : Bool) (keep : List Nat) (nt : Nat), w.heap[p.1]? = some (.loop r) ∧ TRel ρ keep T r.tmps ∧
      (nt ≤ r.tmps.size ∧ cOk nt r.assign = true ∧ cOk nt r.body = true ∧ ∀ t ∈ r.params.toList, t < nt) ∧
      ps = r.params.toList.map (fun t => keep.idxOf? t) ∧ as_ = compile P share keep r.assign ∧ bd = compile P share keep r.body ∧ r.state = st ∧ r.pending = pe.map AE.code
  | .defr => X p.1 = none ∧ w.heap[p.1]? = some (.deferred (some []))

def sepOk : Blk → Nat × Nat → Blk → Nat × Nat → Prop
  | .arr _ true lo, p, B', p' => match B' with
    | .dead => True
    | .arr cs' false _ => p'.2 + cs'.length ≤ p.2 + lo
    | _ => False
  | .loop .., _, B', _ => B' = .dead
  | .defr, _, B', _ => B' = .dead
  | _, _, _, _ => True

structure St (P : Program) (X : Nat → Option Obj) (w0 : World) (ρ : Rho) (h : Nat → Blk) (w : World) : Prop where
  os : w.os = w0.os
  tape : w.tape = w0.tape
  output : w.output = w0.output
  size : w0.heap.size ≤ w.heap.size
  frame : ∀ cb o, X cb = some o → w.heap[cb]? = some o
  dom : ∀ b p, ρ b = some p → p.1 < w.heap.size
  blk : ∀ b p, ρ b = some p → BRel P X ρ w p (h b)
  sep : ∀ b b' p p', b ≠ b' → ρ b = some p → ρ b' = some p' → p.1 = p'.1 → sepOk (h b) p (h b') p'
  lim : ∀ b p cs lo, ρ b = some p → h b = .arr cs true lo → ∃ sz c e fr, ρ.lim b = some (cs.length, sz) ∧ w.heap[p.1]? = some (.cells c e fr) ∧ sz ≤ c.size

def setB (h : Nat → Blk) (b : Nat) (B : Blk) : Nat → Blk := fun i => if i = b then B else h i
theorem setB_same (h : Nat → Blk) (b : Nat) (B : Blk) : setB h b B b = B := by simp [setB]
theorem setB_ne (h : Nat → Blk) {b i : Nat} (B : Blk) (e : i ≠ b) : setB h b B i = h i := by simp [setB, e]

section
variable {P : Program} {X : Nat → Option Obj} {w0 w w' : World} {ρ ρ' : Rho} {h h' : Nat → Blk}

theorem BRel.mono (hl : ρ.le ρ') {p : Nat × Nat} {B : Blk} (hb : BRel P X ρ w p B) : BRel P X ρ' w p B := by
  cases B with
  | dead => trivial
  | arr cs wr lo =>
    obtain ⟨c, e, fr, h1, h2, h3, h4⟩ := hb
    exact ⟨c, e, fr, h1, h2, fun i v hv => let ⟨v', a, b⟩ := h3 i v hv; ⟨v', a, b.mono hl⟩, h4⟩
  | loop T ps a b st pe =>
    obtain ⟨h1, r, sh, keep, nt, h2, h3, h4⟩ := hb
    exact ⟨h1, r, sh, keep, nt, h2, h3.mono hl, h4⟩
  | defr => exact hb
/-- A block is looked at in another world where it lies unchanged. -/
theorem BRel.heap (p : Nat × Nat) {B : Blk} (hb : BRel P X ρ w p B) (he : w'.heap[p.1]? = w.heap[p.1]?) : BRel P X ρ w' p B := by
  cases B with
  | dead => trivial
  | arr cs wr lo => obtain ⟨c, e, fr, h1, h2⟩ := hb; exact ⟨c, e, fr, he.trans h1, h2⟩
  | loop T ps a b st pe => obtain ⟨h1, r, sh, keep, nt, h2, h3⟩ := hb; exact ⟨h1, r, sh, keep, nt, he.trans h2, h3⟩
  | defr => exact ⟨hb.1, he.trans hb.2⟩

theorem St.drawn (s : St P X w0 ρ h w) (n : Nat) : St P X w0 ρ h { w with drawn := n } :=
  ⟨s.os, s.tape, s.output, s.size, s.frame, s.dom, fun b p hp => (s.blk b p hp).heap p rfl, s.sep, s.lim⟩

/-- What no name leads to may be whatever. -/
theorem St.view (s : St P X w0 ρ h w) (he : ∀ b p, ρ b = some p → h' b = h b) : St P X w0 ρ h' w :=
  ⟨s.os, s.tape, s.output, s.size, s.frame, s.dom, fun b p hp => by rw [he b p hp]; exact s.blk b p hp,
    fun b b' p p' hne hp hp' hq => by rw [he b p hp, he b' p' hp']; exact s.sep b b' p p' hne hp hp' hq,
    fun b p cs lo hp hb => s.lim b p cs lo hp (by rw [← he b p hp]; exact hb)⟩

def weak (B' B : Blk) : Prop := B' = B ∨ B' = .dead ∨ ∃ cs w lo lo', B = .arr cs w lo ∧ B' = .arr cs false lo'
theorem BRel.weak {p : Nat × Nat} {B B' : Blk} (hw : weak B' B) (hb : BRel P X ρ w p B) : BRel P X ρ w p B' := by
  rcases hw with rfl | rfl | ⟨cs, wr, lo, lo', rfl, rfl⟩
  · exact hb
  · trivial
  · obtain ⟨c, e, fr, h1, h2, h3, _⟩ := hb
    exact ⟨c, e, fr, h1, h2, h3, fun hf => by cases hf⟩
theorem sepOk_weak {p p' : Nat × Nat} {A A' B B' : Blk} (ha : weak A' A) (hb : weak B' B) (k : sepOk A p B p') (k' : sepOk B p' A p) : sepOk A' p B' p' := by
  rcases ha with rfl | rfl | ⟨cs, wr, lo, lo', rfl, rfl⟩
  · rcases hb with rfl | rfl | ⟨cs, wr, lo, lo', rfl, rfl⟩
    · exact k
    · cases A' with
      | arr c w l => cases w <;> trivial
      | dead => trivial
      | _ => rfl
    · cases A' with
      | arr c w l =>
        cases w with
        | false => trivial
        | true =>
          cases wr with
          | false => exact k
          | true => exact k.elim
      | dead => trivial
      | _ => cases k
  · trivial
  · trivial
theorem St.weaken (s : St P X w0 ρ h w) (hw : ∀ b p, ρ b = some p → weak (h' b) (h b)) : St P X w0 ρ h' w :=
  ⟨s.os, s.tape, s.output, s.size, s.frame, s.dom, fun b p hp => (s.blk b p hp).weak (hw b p hp),
    fun b b' p p' hne hp hp' hq => sepOk_weak (hw b p hp) (hw b' p' hp') (s.sep b b' p p' hne hp hp' hq) (s.sep b' b p' p (Ne.symm hne) hp' hp hq.symm),
    fun b p cs lo hp hb => s.lim b p cs lo hp (by
      rcases hw b p hp with e | e | ⟨cs', w', lo', lo'', e, e'⟩
      · rw [← e]; exact hb
      · rw [e] at hb; cases hb
      · rw [e'] at hb; cases hb)⟩
theorem weak_refl (B : Blk) : weak B B := .inl rfl
theorem St.setWeak (s : St P X w0 ρ h w) (b : Nat) (B : Blk) (hw : weak B (h b)) : St P X w0 ρ (setB h b B) w :=
  s.weaken fun i p hp => by
    by_cases e : i = b
    · subst e; rw [setB_same]; exact hw
    · rw [setB_ne h B e]; exact weak_refl _

/-! ### Reading -/
theorem St.cell (s : St P X w0 ρ h w) {b cb co i : Nat} {cs : List Value} {wr : Bool} {lo : Nat} {v : Value} (hb : h b = .arr cs wr lo) (hp : ρ b = some (cb, co)) (hv : cs[i]? = some v) :
    ∃ v', w.cell? ⟨cb, co + i, none⟩ = some v' ∧ VRel ρ v v' := by
  have := s.blk b _ hp
  rw [hb] at this
  obtain ⟨c, e, fr, h1, h2, h3, _⟩ := this
  obtain ⟨v', a, r⟩ := h3 i v hv
  exact ⟨v', by simp only [World.cell?, h1]; simpa using a, r⟩
theorem St.range (s : St P X w0 ρ h w) {b cb co off n : Nat} {cs : List Value} {wr : Bool} {lo : Nat} (hb : h b = .arr cs wr lo) (hp : ρ b = some (cb, co)) (hl : off + n ≤ cs.length) :
    ∃ cs', VRels ρ ((cs.drop off).take n) cs' ∧ cs'.length = n ∧ w.rangeAt cb (co + off) cs' := by
  have := s.blk b _ hp
  rw [hb] at this
  obtain ⟨c, e, fr, h1, h2, h3, _⟩ := this
  simp only at h1 h2 h3
  refine ⟨(c.toList.drop (co + off)).take n, VRels.of_get (by simp; omega) fun i v hv => ?_, by simp; omega, fun j v hv => ?_⟩
  · have hi : i < n := by have := (List.getElem?_eq_some_iff.1 hv).1; simp at this; omega
    rw [List.getElem?_take, if_pos hi, List.getElem?_drop] at hv
    obtain ⟨v', a, r⟩ := h3 _ _ hv
    refine ⟨v', ?_, r⟩
    rw [List.getElem?_take, if_pos hi, List.getElem?_drop, Array.getElem?_toList]
    rw [← a]; congr 1; omega
  · have hi : j < n := by have := (List.getElem?_eq_some_iff.1 hv).1; simp at this; omega
    rw [List.getElem?_take, if_pos hi, List.getElem?_drop, Array.getElem?_toList] at hv
    simp only [World.cell?, h1]
    simpa using hv

/-! ### New blocks -/
theorem St.fresh (s : St P X w0 ρ h w) : X w.heap.size = none := by
  cases hx : X w.heap.size with
  | none => rfl
  | some o => have := s.frame _ _ hx; simp at this
theorem St.push (s : St P X w0 ρ h w) (o : Obj) {id : Nat} (hid : ρ id = none) (l : Option (Nat × Nat)) (hB : BRel P X (ρ.upd id (w.heap.size, 0) l) { w with heap := w.heap.push o } (w.heap.size, 0) (h id))
    (hL : ∀ cs lo, h id = .arr cs true lo → ∃ sz c e fr, l = some (cs.length, sz) ∧ o = .cells c e fr ∧ sz ≤ c.size) :
    St P X w0 (ρ.upd id (w.heap.size, 0) l) h { w with heap := w.heap.push o } := by
  have hle := Rho.le_upd (w.heap.size, 0) l hid
  have hold : ∀ b p, ρ b = some p → ({ w with heap := w.heap.push o } : World).heap[p.1]? = w.heap[p.1]? := fun b p hp => by
    have := s.dom b p hp
    show (w.heap.push o)[p.1]? = _
    rw [Array.getElem?_push, if_neg (by omega)]
  refine ⟨s.os, s.tape, s.output, by have := s.size; show _ ≤ (w.heap.push o).size; simp; omega, fun cb x hx => ?_, fun b p hp => ?_, fun b p hp => ?_, fun b b' p p' hne hp hp' hq => ?_, fun b p cs lo hp hb => ?_⟩
  · have h1 := s.frame cb x hx
    have : cb < w.heap.size := (Array.getElem?_eq_some_iff.1 h1).1
    show (w.heap.push o)[cb]? = _
    rw [Array.getElem?_push, if_neg (by omega)]
    exact h1
  · show p.1 < (w.heap.push o).size
    rw [Array.size_push]
    by_cases e : b = id
    · subst e; rw [Rho.upd_same] at hp; cases hp; exact Nat.lt_succ_self _
    · rw [Rho.upd_ne ρ _ _ e] at hp; have := s.dom b p hp; omega
  · by_cases e : b = id
    · subst e; rw [Rho.upd_same] at hp; cases hp; exact hB
    · rw [Rho.upd_ne ρ _ _ e] at hp
      exact ((s.blk b p hp).mono hle).heap p (hold b p hp)
  · by_cases e : b = id
    · subst e
      rw [Rho.upd_same] at hp
      cases hp
      rw [Rho.upd_ne ρ _ _ (Ne.symm hne)] at hp'
      have := s.dom b' p' hp'
      simp at hq; omega
    · rw [Rho.upd_ne ρ _ _ e] at hp
      by_cases e' : b' = id
      · subst e'
        rw [Rho.upd_same] at hp'
        cases hp'
        have := s.dom b p hp
        simp at hq; omega
      · rw [Rho.upd_ne ρ _ _ e'] at hp'
        exact s.sep b b' p p' hne hp hp' hq
  · by_cases e : b = id
    · subst e
      rw [Rho.upd_same] at hp
      cases hp
      obtain ⟨sz, c, e, fr, h1, h2, h3⟩ := hL cs lo hb
      exact ⟨sz, c, e, fr, by rw [Rho.lim_same]; exact h1, by show (w.heap.push o)[w.heap.size]? = _; rw [Array.getElem?_push_size, h2], h3⟩
    · rw [Rho.upd_ne ρ _ _ e] at hp
      obtain ⟨sz, c, e', fr, h1, h2, h3⟩ := s.lim b p cs lo hp hb
      exact ⟨sz, c, e', fr, by rw [Rho.lim_ne ρ _ _ e]; exact h1, by rw [hold b p hp]; exact h2, h3⟩
theorem St.newRow (s : St P X w0 ρ h w) {id : Nat} (hid : ρ id = none) {cs : List Value} {lo : Nat} {c : Array Value} (e : TypeId) (hb : h id = .arr cs true lo) (hl : cs.length ≤ c.size) (hr : VRels ρ cs (c.toList.take cs.length)) :
    St P X w0 (ρ.upd id (w.heap.size, 0) (some (cs.length, c.size))) h (w.alloc (.cells c e)) := by
  refine s.push _ hid _ ?_ (fun cs' lo' hb' => by rw [hb] at hb'; cases hb'; exact ⟨_, c, e, (0, 0), rfl, rfl, Nat.le_refl _⟩)
  rw [hb]
  refine ⟨c, e, (0, 0), by simp, by simpa using hl, fun i v hv => ?_, fun _ => ⟨s.fresh, fun o _ ho => by omega⟩⟩
  obtain ⟨v', a, r⟩ := hr.get hv
  have hi : i < cs.length := (List.getElem?_eq_some_iff.1 hv).1
  rw [List.getElem?_take, if_pos hi, Array.getElem?_toList] at a
  exact ⟨v', by simpa using a, r.mono (Rho.le_upd _ _ hid)⟩

/-! ### Stores -/
def csplice : Array Value → Nat → List Value → Array Value
  | c, _, [] => c
  | c, o, v :: r => csplice (c.setIfInBounds o v) (o + 1) r
theorem csplice_size : ∀ (vs : List Value) (c : Array Value) (o : Nat), (csplice c o vs).size = c.size
  | [], _, _ => rfl
  | v :: r, c, o => by rw [csplice, csplice_size r]; simp
theorem csplice_get : ∀ (vs : List Value) (c : Array Value) (o i : Nat), o + vs.length ≤ c.size → (csplice c o vs)[i]? = if o ≤ i ∧ i < o + vs.length then vs[i - o]? else c[i]?
  | [], c, o, i, h => by simp [csplice]; omega
  | v :: r, c, o, i, h => by
    simp only [List.length_cons] at h
    rw [csplice, csplice_get r _ _ _ (by simp; omega), Array.getElem?_setIfInBounds]
    by_cases e : o = i
    · subst e
      rw [if_neg (by omega), if_pos rfl, if_pos (by omega), if_pos (by simp)]
      simp
    · rw [if_neg e]
      by_cases e2 : o + 1 ≤ i ∧ i < o + 1 + r.length
      · rw [if_pos e2, if_pos (by simp; omega)]
        rw [show i - o = (i - (o + 1)) + 1 by omega]
        simp
      · rw [if_neg e2, if_neg (by simp; omega)]
theorem splice_length : ∀ (vs cs : List Value) (o : Nat), (splice cs o vs).length = cs.length
  | [], _, _ => rfl
  | v :: r, cs, o => by rw [splice, splice_length r]; simp
theorem splice_get : ∀ (vs cs : List Value) (o i : Nat), o + vs.length ≤ cs.length → (splice cs o vs)[i]? = if o ≤ i ∧ i < o + vs.length then vs[i - o]? else cs[i]?
  | [], c, o, i, h => by simp [splice]; omega
  | v :: r, c, o, i, h => by
    simp only [List.length_cons] at h
    rw [splice, splice_get r _ _ _ (by simp; omega), List.getElem?_set]
    by_cases e : o = i
    · subst e
      rw [if_neg (by omega), if_pos rfl, if_pos (by omega), if_pos (by simp)]
      simp
    · rw [if_neg e]
      by_cases e2 : o + 1 ≤ i ∧ i < o + 1 + r.length
      · rw [if_pos e2, if_pos (by simp; omega)]
        rw [show i - o = (i - (o + 1)) + 1 by omega]
        simp
      · rw [if_neg e2, if_neg (by simp; omega)]
theorem setCells_heap (b : Nat) : ∀ (vs : List Value) (o : Nat) (w : World) (c : Array Value) (e : TypeId) (fr : Nat × Nat), w.heap[b]? = some (.cells c e fr) →
    (w.setCells b o vs).heap[b]? = some (.cells (csplice c o vs) e fr)
  | [], _, _, _, _, _, h => h
  | v :: r, o, w, c, e, fr, h => by
    rw [World.setCells, csplice]
    refine setCells_heap b r _ _ _ e fr ?_
    simp only [World.setCell, Array.getElem?_modify, h]
    simp
theorem setCells_other (b : Nat) : ∀ (vs : List Value) (o : Nat) (w : World) (k : Nat), k ≠ b → (w.setCells b o vs).heap[k]? = w.heap[k]?
  | [], _, _, _, _ => rfl
  | v :: r, o, w, k, h => by
    rw [World.setCells, setCells_other b r _ _ _ h]
    simp only [World.setCell, Array.getElem?_modify]
    rw [if_neg (by omega)]
theorem setCells_rest (b : Nat) : ∀ (vs : List Value) (o : Nat) (w : World), (w.setCells b o vs).os = w.os ∧ (w.setCells b o vs).tape = w.tape ∧ (w.setCells b o vs).output = w.output ∧ (w.setCells b o vs).heap.size = w.heap.size
  | [], _, _ => ⟨rfl, rfl, rfl, rfl⟩
  | v :: r, o, w => by
    rw [World.setCells]
    obtain ⟨a, b, c, d⟩ := setCells_rest b r (o + 1) (w.setCell ⟨b, o, none⟩ v)
    exact ⟨a, b, c, d.trans (by simp [World.setCell])⟩

/-- A block of ours has been turned; all else stands; no name has moved. -/
theorem St.change (s : St P X w0 ρ h w) {b cb co : Nat} (hp : ρ b = some (cb, co)) (hX : X cb = none) (B : Blk)
    (hos : w'.os = w.os) (htape : w'.tape = w.tape) (hout : w'.output = w.output) (hsz : w'.heap.size = w.heap.size) (hne : ∀ k, k ≠ cb → w'.heap[k]? = w.heap[k]?)
    (hB : BRel P X ρ w' (cb, co) B)
    (hoth : ∀ b' p', b' ≠ b → ρ b' = some p' → p'.1 = cb → BRel P X ρ w' p' (h b') ∧ sepOk B (cb, co) (h b') p' ∧ sepOk (h b') p' B (cb, co) ∧ ∀ cs lo, h b' ≠ .arr cs true lo)
    (hL : ∀ cs lo, B = .arr cs true lo → ∃ sz c e fr, ρ.lim b = some (cs.length, sz) ∧ w'.heap[cb]? = some (.cells c e fr) ∧ sz ≤ c.size) : St P X w0 ρ (setB h b B) w' := by
  refine ⟨hos.trans s.os, htape.trans s.tape, hout.trans s.output, by rw [hsz]; exact s.size, fun k o hk => ?_, fun i p hi => by rw [hsz]; exact s.dom i p hi, fun i p hi => ?_, fun i j p q hij hi hj hq => ?_, fun i p cs lo hi hb => ?_⟩
  · rw [hne k (fun e => by subst e; rw [hX] at hk; cases hk)]; exact s.frame k o hk
  · by_cases e : i = b
    · subst e; rw [hp] at hi; cases hi; rw [setB_same]; exact hB
    · rw [setB_ne h B e]
      by_cases e2 : p.1 = cb
      · exact (hoth i p e hi e2).1
      · exact (s.blk i p hi).heap p (hne _ e2)
  · by_cases e : i = b
    · subst e
      rw [hp] at hi; cases hi
      rw [setB_same, setB_ne h B (Ne.symm hij)]
      exact (hoth j q (Ne.symm hij) hj hq.symm).2.1
    · rw [setB_ne h B e]
      by_cases e2 : j = b
      · subst e2
        rw [hp] at hj; cases hj
        rw [setB_same]
        exact (hoth i p e hi hq).2.2.1
      · rw [setB_ne h B e2]
        exact s.sep i j p q hij hi hj hq
  · by_cases e : i = b
    · subst e
      rw [hp] at hi; cases hi
      rw [setB_same] at hb
      exact hL cs lo hb
    · rw [setB_ne h B e] at hb
      by_cases e2 : p.1 = cb
      · exact absurd hb ((hoth i p e hi e2).2.2.2 cs lo)
      · obtain ⟨sz, c, e', fr, h3, h4, h5⟩ := s.lim i p cs lo hi hb
        exact ⟨sz, c, e', fr, h3, by rw [hne _ e2]; exact h4, h5⟩

/-- Who shares a block's memory: those that may not be written, ahead of what may be written here. -/
theorem St.sharers (s : St P X w0 ρ h w) {b cb co : Nat} {cs : List Value} {lo : Nat} (hb : h b = .arr cs true lo) (hp : ρ b = some (cb, co)) {b' : Nat} {p' : Nat × Nat} (hne : b' ≠ b) (hp' : ρ b' = some p') (hq : p'.1 = cb) :
    h b' = .dead ∨ ∃ cs' lo', h b' = .arr cs' false lo' ∧ p'.2 + cs'.length ≤ co + lo := by
  have := s.sep b b' (cb, co) p' (Ne.symm hne) hp hp' hq.symm
  rw [hb] at this
  cases hB : h b' with
  | dead => exact .inl rfl
  | arr c wr l =>
    rw [hB] at this
    cases wr with
    | false => exact .inr ⟨c, l, rfl, this⟩
    | true => exact this.elim
  | loop => rw [hB] at this; exact this.elim
  | defr => rw [hB] at this; exact this.elim

theorem St.write (s : St P X w0 ρ h w) {b cb co off : Nat} {cs : List Value} {lo : Nat} (hb : h b = .arr cs true lo) (hp : ρ b = some (cb, co)) {vs vs' : List Value} (hlo : lo ≤ off) (hl : off + vs.length ≤ cs.length) (hr : VRels ρ vs vs') :
    St P X w0 ρ (setB h b (.arr (splice cs off vs) true lo)) (w.setCells cb (co + off) vs') := by
  have hlen := hr.length
  have hblk := s.blk b _ hp
  rw [hb] at hblk
  obtain ⟨c, e, fr, h1, h2, h3, h4⟩ := hblk
  simp only at h1 h2 h3 h4
  obtain ⟨r1, r2, r3, r4⟩ := setCells_rest cb vs' (co + off) w
  have hheap := setCells_heap cb vs' (co + off) w c e fr h1
  refine s.change hp (h4 trivial).1 _ r1 r2 r3 r4 (fun k hk => setCells_other cb vs' _ w k hk) ?_ ?_ ?_
  · refine ⟨_, e, fr, hheap, by simp only [splice_length, csplice_size]; exact h2, fun i v hv => ?_, fun _ => ⟨(h4 trivial).1, fun o ho => (h4 trivial).2 o (by rw [csplice_size] at ho; exact ho)⟩⟩
    rw [splice_get vs cs off i hl] at hv
    rw [csplice_get vs' c _ _ (by omega)]
    by_cases hi : off ≤ i ∧ i < off + vs.length
    · rw [if_pos hi] at hv
      obtain ⟨v', a, r⟩ := hr.get hv
      exact ⟨v', by rw [if_pos (by omega), ← a]; congr 1; omega, r⟩
    · rw [if_neg hi] at hv
      obtain ⟨v', a, r⟩ := h3 i v hv
      exact ⟨v', by rw [if_neg (by omega)]; exact a, r⟩
  · intro b' p' hne hp' hq
    rcases s.sharers hb hp hne hp' hq with hd | ⟨cs', lo', hd, hle⟩
    · rw [hd]; exact ⟨trivial, trivial, trivial, fun _ _ hf => by cases hf⟩
    · rw [hd]
      refine ⟨?_, hle, trivial, fun _ _ hf => by cases hf⟩
      have hblk' := s.blk b' p' hp'
      rw [hd] at hblk'
      obtain ⟨c', e', fr', g1, g2, g3, _⟩ := hblk'
      rw [hq, h1] at g1
      injection g1 with g1
      injection g1 with g1 ge gf
      subst g1
      refine ⟨_, e, fr, by rw [hq]; exact hheap, by rw [csplice_size]; exact g2, fun i v hv => ?_, fun hf => by cases hf⟩
      obtain ⟨v', a, r⟩ := g3 i v hv
      have hi : i < cs'.length := (List.getElem?_eq_some_iff.1 hv).1
      exact ⟨v', by rw [csplice_get vs' c _ _ (by omega), if_neg (by omega)]; exact a, r⟩
  · intro cs' lo' hq
    cases hq
    obtain ⟨sz, c', e', fr', g1, g2, g3⟩ := s.lim b _ cs lo hp hb
    rw [h1] at g2
    cases g2
    exact ⟨sz, _, e, fr, by rw [splice_length]; exact g1, hheap, by rw [csplice_size]; exact g3⟩

end
end Go.Proofs.Ytdbehmepikhghaa.AM
