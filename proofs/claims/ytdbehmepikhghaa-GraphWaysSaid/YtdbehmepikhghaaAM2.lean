/- The relation between the abstract heap and the model's memory: values, blocks, worlds; what it is preserved by. -/
import Derived.Test.YtdbehmepikhghaaAM1
import Derived.Below
import Derived.Deep.MidRow
import Derived.Laws.IdiomCopy
set_option linter.unusedVariables false
set_option linter.unusedSimpArgs false
namespace Go.Proofs.Ytdbehmepikhghaa.AM

/-- Where each abstract block lies (block, offset); and of blocks that were appended to: their length here and how far cells surely reach there. -/
structure Rho where
  f : Nat → Option (Nat × Nat)
  lim : Nat → Option (Nat × Nat)
instance : CoeFun Rho (fun _ => Nat → Option (Nat × Nat)) := ⟨Rho.f⟩
def Rho.le (ρ ρ' : Rho) : Prop := ∀ b p, ρ b = some p → ρ' b = some p ∧ ρ'.lim b = ρ.lim b
theorem Rho.le.refl (ρ : Rho) : ρ.le ρ := fun _ _ h => ⟨h, rfl⟩
theorem Rho.le.trans {a b c : Rho} (h : a.le b) (k : b.le c) : a.le c := fun _ _ x => let ⟨u, v⟩ := h _ _ x; let ⟨y, z⟩ := k _ _ u; ⟨y, z.trans v⟩
def Rho.upd (ρ : Rho) (b : Nat) (p : Nat × Nat) (l : Option (Nat × Nat)) : Rho := ⟨fun i => if i = b then some p else ρ i, fun i => if i = b then l else ρ.lim i⟩
theorem Rho.upd_same (ρ : Rho) (b : Nat) (p : Nat × Nat) (l : Option (Nat × Nat)) : ρ.upd b p l b = some p := by simp [Rho.upd]
theorem Rho.upd_ne (ρ : Rho) {b i : Nat} (p : Nat × Nat) (l : Option (Nat × Nat)) (h : i ≠ b) : ρ.upd b p l i = ρ i := by simp [Rho.upd, h]
theorem Rho.lim_same (ρ : Rho) (b : Nat) (p : Nat × Nat) (l : Option (Nat × Nat)) : (ρ.upd b p l).lim b = l := by simp [Rho.upd]
theorem Rho.lim_ne (ρ : Rho) {b i : Nat} (p : Nat × Nat) (l : Option (Nat × Nat)) (h : i ≠ b) : (ρ.upd b p l).lim i = ρ.lim i := by simp [Rho.upd, h]
theorem Rho.le_upd {ρ : Rho} {b : Nat} (p : Nat × Nat) (l : Option (Nat × Nat)) (h : ρ b = none) : ρ.le (ρ.upd b p l) := fun i q hq => by
  by_cases e : i = b
  · subst e; rw [h] at hq; cases hq
  · rw [Rho.upd_ne ρ p l e, Rho.lim_ne ρ p l e]; exact ⟨hq, rfl⟩
/-- Of a slice of unknown capacity that begins where its block begins: so far its cells reach, if it is as long as the block. -/
def Lim (l : Option (Nat × Nat)) (co o c c' : Nat) : Prop := o = 0 → ∀ L sz, l = some (L, sz) → ∀ size, c * size = L → co + c' * size ≤ sz

mutual
inductive VRel (ρ : Rho) : Value → Value → Prop
  | flat {v : Value} (h : flat v = true) : VRel ρ v v
  | ptr {b o cb co : Nat} (h : ρ b = some (cb, co)) : VRel ρ (.pointer (some ⟨b, o, none⟩)) (.pointer (some ⟨cb, co + o, none⟩))
  | sl {b o cb co n c c' e : Nat} (h : ρ b = some (cb, co)) (hc : c ≤ c') (he : e ≤ 1) (hx : e = 1 → c' = c) (hl : e = 0 → Lim (ρ.lim b) co o c c') :
      VRel ρ (.slice (some ⟨b, o, none⟩) n (2 * c + e)) (.slice (some ⟨cb, co + o, none⟩) n c')
  | slz {b o cb co o' c' e : Nat} (h : ρ b = some (cb, co)) (he : e ≤ 1) (hx : e = 1 → c' = 0) : VRel ρ (.slice (some ⟨b, o, none⟩) 0 e) (.slice (some ⟨cb, o', none⟩) 0 c')
  /-- Without an element, it may lie anywhere. -/
  | wild {b o s c' e : Nat} {a' : Addr} (he : e ≤ 1) (hx : e = 1 → c' = 0) : VRel ρ (.slice (some ⟨b, o, some s⟩) 0 e) (.slice (some a') 0 c')
  | fn {f : FuncId} {a c a' c' : Array Value} (ha : VRels ρ a.toList a'.toList) (hc : VRels ρ c.toList c'.toList) : VRel ρ (.func (.func f) a c) (.func (.func f) a' c')
  | yld {l cl co : Nat} (h : ρ l = some (cl, co)) : VRel ρ (.func (.yield l) #[] #[]) (.func (.yield cl) #[] #[])
  | agg {a a' : Array Value} (h : VRels ρ a.toList a'.toList) : VRel ρ (.agg a) (.agg a')
  | tup {a a' : Array Value} (h : VRels ρ a.toList a'.toList) : VRel ρ (.tuple a) (.tuple a')
inductive VRels (ρ : Rho) : List Value → List Value → Prop
  | nil : VRels ρ [] []
  | cons {v v' : Value} {l l' : List Value} (h : VRel ρ v v') (t : VRels ρ l l') : VRels ρ (v :: l) (v' :: l')
end

mutual
theorem VRel.mono {ρ ρ' : Rho} (h : ρ.le ρ') : ∀ {v v' : Value}, VRel ρ v v' → VRel ρ' v v'
  | _, _, .flat x => .flat x
  | _, _, .ptr x => .ptr (h _ _ x).1
  | _, _, .sl x hc he hx hl => .sl (h _ _ x).1 hc he hx (by rw [(h _ _ x).2]; exact hl)
  | _, _, .slz x he hx => .slz (h _ _ x).1 he hx
  | _, _, .wild he hx => .wild he hx
  | _, _, .fn a c => .fn (VRels.mono h a) (VRels.mono h c)
  | _, _, .yld x => .yld (h _ _ x).1
  | _, _, .agg x => .agg (VRels.mono h x)
  | _, _, .tup x => .tup (VRels.mono h x)
theorem VRels.mono {ρ ρ' : Rho} (h : ρ.le ρ') : ∀ {l l' : List Value}, VRels ρ l l' → VRels ρ' l l'
  | _, _, .nil => .nil
  | _, _, .cons x t => .cons (VRel.mono h x) (VRels.mono h t)
end

section
variable {ρ : Rho}
theorem VRels.length {l l' : List Value} (h : VRels ρ l l') : l.length = l'.length := by
  induction l generalizing l' with
  | nil => cases h; rfl
  | cons v l ih => cases h with | cons _ t => simp [ih t]
theorem VRels.get {l l' : List Value} (h : VRels ρ l l') : ∀ {i : Nat} {v : Value}, l[i]? = some v → ∃ v', l'[i]? = some v' ∧ VRel ρ v v' := by
  induction l generalizing l' with
  | nil => intro i v hv; simp at hv
  | cons u l ih =>
    cases h with
    | cons hu t =>
      intro i v hv
      cases i with
      | zero => simp at hv; subst hv; exact ⟨_, rfl, hu⟩
      | succ i => simpa using ih t (by simpa using hv)
theorem VRels.of_get {l l' : List Value} (hl : l.length = l'.length) (h : ∀ (i : Nat) (v : Value), l[i]? = some v → ∃ v', l'[i]? = some v' ∧ VRel ρ v v') : VRels ρ l l' := by
  induction l generalizing l' with
  | nil => cases l' with
    | nil => exact .nil
    | cons _ _ => simp at hl
  | cons v l ih =>
    cases l' with
    | nil => simp at hl
    | cons v' l' =>
      refine .cons ?_ (ih (by simpa using hl) fun i u hu => by simpa using h (i + 1) u (by simpa using hu))
      obtain ⟨u, hu, hr⟩ := h 0 v rfl
      simp at hu
      exact hu ▸ hr
theorem VRels.append {a a' b b' : List Value} (h : VRels ρ a a') (k : VRels ρ b b') : VRels ρ (a ++ b) (a' ++ b') := by
  induction a generalizing a' with
  | nil => cases h; exact k
  | cons v a ih => cases h with | cons x t => exact .cons x (ih t)
theorem VRels.take {l l' : List Value} (h : VRels ρ l l') (n : Nat) : VRels ρ (l.take n) (l'.take n) := by
  induction l generalizing l' n with
  | nil => cases h; simp; exact .nil
  | cons v l ih =>
    cases h with
    | cons x t =>
      cases n with
      | zero => exact .nil
      | succ n => exact .cons x (ih t n)
theorem VRels.drop {l l' : List Value} (h : VRels ρ l l') (n : Nat) : VRels ρ (l.drop n) (l'.drop n) := by
  induction l generalizing l' n with
  | nil => cases h; simp; exact .nil
  | cons v l ih =>
    cases h with
    | cons x t =>
      cases n with
      | zero => exact .cons x t
      | succ n => exact ih t n
theorem VRels.flat {l : List Value} (h : ∀ v ∈ l, Go.Proofs.Ytdbehmepikhghaa.AM.flat v = true) : VRels ρ l l := by
  induction l with
  | nil => exact .nil
  | cons v l ih => exact .cons (.flat (h v (by simp))) (ih fun u hu => h u (by simp [hu]))
theorem flat_of_flat1 {v : Value} (h : flat1 v = true) : flat v = true := by
  cases v <;> simp_all [flat1, flat]
theorem flat1_oneCell {v : Value} (h : flat1 v = true) : oneCell v = true := by
  cases v <;> simp_all [flat1, oneCell]

theorem VRel.int {k : IntKind} {n : Int} {v : Value} (h : VRel ρ (.int k n) v) : v = .int k n := by cases h; rfl
theorem VRel.bool {b : Bool} {v : Value} (h : VRel ρ (.bool b) v) : v = .bool b := by cases h; rfl
theorem VRel.string {s : ByteArray} {v : Value} (h : VRel ρ (.string s) v) : v = .string s := by cases h; rfl
theorem VRel.nilFunc {v : Value} (h : VRel ρ .nilFunc v) : v = .nilFunc := by cases h; rfl
theorem VRel.ptr_none {v : Value} (h : VRel ρ (.pointer none) v) : v = .pointer none := by cases h; rfl
theorem VRel.ptr_some {a : Addr} {v : Value} (h : VRel ρ (.pointer (some a)) v) : ∃ b o cb co, a = ⟨b, o, none⟩ ∧ ρ b = some (cb, co) ∧ v = .pointer (some ⟨cb, co + o, none⟩) := by
  cases h with
  | flat h => simp [Go.Proofs.Ytdbehmepikhghaa.AM.flat, flat1] at h
  | ptr h => exact ⟨_, _, _, _, rfl, h, rfl⟩
theorem flat_slice_none {n c : Nat} (h : flat (.slice none n c) = true) : n = 0 ∧ c = 0 := by
  cases n with
  | zero => cases c with
    | zero => exact ⟨rfl, rfl⟩
    | succ c => simp [flat, flat1] at h
  | succ n => simp [flat, flat1] at h
theorem VRel.sl_none {n c : Nat} {v : Value} (h : VRel ρ (.slice none n c) v) : n = 0 ∧ c = 0 ∧ v = .slice none 0 0 := by
  cases h with
  | flat h => obtain ⟨rfl, rfl⟩ := flat_slice_none h; exact ⟨rfl, rfl, rfl⟩
theorem VRel.sl_some {a : Addr} {n ce : Nat} {v : Value} (h : VRel ρ (.slice (some a) n ce) v) (hs : a.spot = none) :
    ∃ b o cb co, a = ⟨b, o, none⟩ ∧ ρ b = some (cb, co) ∧
      ((∃ c', v = .slice (some ⟨cb, co + o, none⟩) n c' ∧ ce / 2 ≤ c' ∧ (ce % 2 = 1 → c' = ce / 2) ∧ (ce % 2 = 0 → Lim (ρ.lim b) co o (ce / 2) c')) ∨ (n = 0 ∧ ce ≤ 1 ∧ ∃ o' c', v = .slice (some ⟨cb, o', none⟩) 0 c' ∧ (ce = 1 → c' = 0))) := by
  cases h with
  | flat h => simp [Go.Proofs.Ytdbehmepikhghaa.AM.flat, flat1] at h
  | @sl _ _ _ _ _ c _ e h hc he hx hl =>
    have hq : (2 * c + e) / 2 = c := by omega
    exact ⟨_, _, _, _, rfl, h, .inl ⟨_, rfl, by omega, fun hh => by rw [hx (by omega)]; omega, fun hh => by rw [hq]; exact hl (by omega)⟩⟩
  | slz h he hx => exact ⟨_, _, _, _, rfl, h, .inr ⟨rfl, he, _, _, rfl, hx⟩⟩
  | wild he hx => cases hs
theorem VRel.sl_any {a : Addr} {n ce : Nat} {v : Value} (h : VRel ρ (.slice (some a) n ce) v) : a.spot = none ∨ (n = 0 ∧ ce ≤ 1 ∧ ∃ a' c', v = .slice (some a') 0 c' ∧ (ce = 1 → c' = 0) ∧ ∃ b o s, a = ⟨b, o, some s⟩) := by
  cases h with
  | flat h => simp [Go.Proofs.Ytdbehmepikhghaa.AM.flat, flat1] at h
  | sl _ _ _ _ _ => exact .inl rfl
  | slz _ _ _ => exact .inl rfl
  | wild he hx => exact .inr ⟨rfl, he, _, _, rfl, hx, _, _, _, rfl⟩
theorem VRel.mk_sl {b o cb co n ce c' : Nat} (h : ρ b = some (cb, co)) (hc : ce / 2 ≤ c') (hx : ce % 2 = 1 → c' = ce / 2) (hl : ce % 2 = 0 → Lim (ρ.lim b) co o (ce / 2) c') : VRel ρ (.slice (some ⟨b, o, none⟩) n ce) (.slice (some ⟨cb, co + o, none⟩) n c') := by
  have e : ce = 2 * (ce / 2) + ce % 2 := by omega
  rw [e]
  exact .sl h hc (by omega) hx hl
theorem VRel.fn_inv {f : FuncId} {a c : Array Value} {v : Value} (h : VRel ρ (.func (.func f) a c) v) : ∃ a' c', v = .func (.func f) a' c' ∧ VRels ρ a.toList a'.toList ∧ VRels ρ c.toList c'.toList := by
  cases h with
  | flat h => simp [Go.Proofs.Ytdbehmepikhghaa.AM.flat, flat1] at h
  | fn ha hc => exact ⟨_, _, rfl, ha, hc⟩
theorem VRel.agg_inv {a : Array Value} {v : Value} (h : VRel ρ (.agg a) v) : ∃ a', v = .agg a' ∧ VRels ρ a.toList a'.toList := by
  cases h with
  | flat h =>
    refine ⟨a, rfl, VRels.flat fun v hv => flat_of_flat1 ?_⟩
    simp only [Go.Proofs.Ytdbehmepikhghaa.AM.flat, List.all_eq_true] at h
    exact h v hv
  | agg h => exact ⟨_, rfl, h⟩
theorem VRel.tup_inv {a : Array Value} {v : Value} (h : VRel ρ (.tuple a) v) : ∃ a', v = .tuple a' ∧ VRels ρ a.toList a'.toList := by
  cases h with
  | flat h =>
    simp only [Go.Proofs.Ytdbehmepikhghaa.AM.flat, List.isEmpty_iff] at h
    exact ⟨a, rfl, by rw [h]; exact .nil⟩
  | tup h => exact ⟨_, rfl, h⟩
theorem VRel.of_flat1 {v v' : Value} (h : VRel ρ v v') (hf : flat1 v = true) : v' = v := by
  cases h <;> first | rfl | (simp [flat1] at hf)
theorem VRels.of_flat1 {l l' : List Value} (h : VRels ρ l l') (hf : l.all flat1 = true) : l' = l := by
  induction l generalizing l' with
  | nil => cases h; rfl
  | cons v l ih =>
    cases h with
    | cons x t =>
      simp only [List.all_cons, Bool.and_eq_true] at hf
      rw [x.of_flat1 hf.1, ih t hf.2]
theorem VRel.of_flat {v v' : Value} (h : VRel ρ v v') (hf : Go.Proofs.Ytdbehmepikhghaa.AM.flat v = true) : v' = v := by
  cases h with
  | flat _ => rfl
  | agg h =>
    simp only [Go.Proofs.Ytdbehmepikhghaa.AM.flat] at hf
    exact congrArg Value.agg (Array.ext' (h.of_flat1 hf))
  | tup h =>
    simp only [Go.Proofs.Ytdbehmepikhghaa.AM.flat, List.isEmpty_iff] at hf
    rename_i a a'
    have hl := h.length
    rw [hf] at hl
    exact congrArg Value.tuple (Array.ext' ((List.eq_nil_of_length_eq_zero hl.symm).trans hf.symm))
  | _ => simp [Go.Proofs.Ytdbehmepikhghaa.AM.flat, flat1] at hf
theorem VRels.of_flat {l l' : List Value} (h : VRels ρ l l') (hf : l.all Go.Proofs.Ytdbehmepikhghaa.AM.flat = true) : l' = l := by
  induction l generalizing l' with
  | nil => cases h; rfl
  | cons v l ih =>
    cases h with
    | cons x t =>
      simp only [List.all_cons, Bool.and_eq_true] at hf
      rw [x.of_flat hf.1, ih t hf.2]
theorem VRel.oneCell {v v' : Value} (h : VRel ρ v v') : Go.Proofs.Ytdbehmepikhghaa.AM.oneCell v' = Go.Proofs.Ytdbehmepikhghaa.AM.oneCell v := by
  cases h <;> rfl
theorem VRel.cells {v v' : Value} (h : VRel ρ v v') : VRels ρ v.cells.toList v'.cells.toList := by
  cases h with
  | agg h => exact h
  | flat h =>
    refine VRels.flat fun u hu => ?_
    cases v <;> simp [Value.cells] at hu <;> (try (subst hu; exact h))
    simp only [Go.Proofs.Ytdbehmepikhghaa.AM.flat, List.all_eq_true] at h
    exact flat_of_flat1 (h u (by simpa using hu))
  | ptr h => exact .cons (.ptr h) .nil
  | sl h a b c d => exact .cons (.sl h a b c d) .nil
  | slz h he hx => exact .cons (.slz h he hx) .nil
  | wild he hx => exact .cons (.wild he hx) .nil
  | fn a c => exact .cons (.fn a c) .nil
  | yld h => exact .cons (.yld h) .nil
  | tup h => exact .cons (.tup h) .nil
theorem oneCell_eq (v : Value) : Go.Proofs.Ytdbehmepikhghaa.AM.oneCell v = v.oneCell' := by cases v <;> rfl
end
end Go.Proofs.Ytdbehmepikhghaa.AM
