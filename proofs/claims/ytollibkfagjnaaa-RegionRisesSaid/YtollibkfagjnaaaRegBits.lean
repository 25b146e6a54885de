/- What governs, and levels: plain law. -/
import Derived.Test.YtollibkfagjnaaaRegGov
set_option linter.unusedVariables false
set_option linter.unusedSimpArgs false
set_option maxRecDepth 10000
namespace Go.Proofs.Ytollibkfagjnaaa.Graph
open Go.Proofs.Ytollibkfagjnaaa.AM Go.Proofs.Ytollibkfagjnaaa.Post
/-- A label. -/
def IsU (x : Int) : Prop := 0 ≤ x ∧ x < 18446744073709551616
def lb (x : Int) : BitVec 64 := BitVec.ofInt 64 x
theorem or_bv (a b : Int) : orU' a b = ((lb a ||| lb b).toNat : Int) := by
  show (((BitVec.ofInt 64 a ||| BitVec.ofInt 64 b).toNat : Int)) % 18446744073709551616 = _
  have := (lb a ||| lb b).isLt
  unfold lb at *
  omega
noncomputable def andN (a b : Int) : Int := abits .andNot .u64 a b
theorem and_bv (a b : Int) : andN a b = ((lb a &&& ~~~ lb b).toNat : Int) := by
  show (((BitVec.ofInt 64 a &&& ~~~ BitVec.ofInt 64 b).toNat : Int)) % 18446744073709551616 = _
  have := (lb a &&& ~~~ lb b).isLt
  unfold lb at *
  omega
theorem lb_nat (v : BitVec 64) : lb (v.toNat : Int) = v := by
  unfold lb
  rw [BitVec.ofInt_natCast, BitVec.ofNat_toNat, BitVec.setWidth_eq]
theorem lb_or (a b : Int) : lb (orU' a b) = lb a ||| lb b := by rw [or_bv, lb_nat]
theorem or_U (a b : Int) : IsU (orU' a b) := by
  rw [or_bv]
  have := (lb a ||| lb b).isLt
  exact ⟨by omega, by omega⟩
theorem lb_inj {a b : Int} (ha : IsU a) (hb : IsU b) (h : lb a = lb b) : a = b := by
  unfold lb at h
  have := congrArg BitVec.toNat h
  rw [BitVec.toNat_ofInt, BitVec.toNat_ofInt] at this
  obtain ⟨a1, a2⟩ := ha
  obtain ⟨b1, b2⟩ := hb
  have e1 : a % ((2 : Nat) ^ 64 : Nat) = a := Int.emod_eq_of_lt a1 (by omega)
  have e2 : b % ((2 : Nat) ^ 64 : Nat) = b := Int.emod_eq_of_lt b1 (by omega)
  rw [e1, e2] at this
  omega
theorem or_0 {a : Int} (h : IsU a) : orU' a 0 = a := lb_inj (or_U _ _) h (by rw [lb_or, show lb 0 = 0#64 from rfl, BitVec.or_zero])
/-- Held in. -/
def Sub (x y : BitVec 64) : Prop := ∀ i, x.getLsbD i = true → y.getLsbD i = true
theorem and_0 {a b : Int} (h : Sub (lb a) (lb b)) : andN a b = 0 := by
  rw [and_bv]
  have : lb a &&& ~~~ lb b = 0#64 := by
    apply BitVec.eq_of_getLsbD_eq
    intro i hi
    have := h i
    cases hx : (lb a).getLsbD i with
    | false => simp [hx]
    | true => simp [hx, this hx]
  rw [this]; rfl
section
variable {code : List (Int × Int)} {conds conds' : List Int} {base base' more : Int} {a : Nat}
theorem levA_U (h : IsU base) : ∀ k, IsU (levA code conds base a k)
  | 0 => h
  | k + 1 => by
    simp only [levA]
    split
    · exact or_U _ _
    · exact levA_U h k
open Classical in
theorem levA_lb (k : Nat) : lb (levA code conds base a (k + 1)) = if Reg code k a then lb (levA code conds base a k) ||| lb (conds.getD k 0) else lb (levA code conds base a k) := by
  simp only [levA]
  by_cases hr : Reg code k a
  · rw [if_pos hr]
    by_cases hc : conds.getD k 0 = 0
    · rw [if_neg fun q => q.1 hc, hc, show lb 0 = 0#64 from rfl, BitVec.or_zero]
    · rw [if_pos ⟨hc, hr⟩, lb_or]
  · rw [if_neg hr, if_neg fun q => hr q.2]
noncomputable def wantN (conds : List Int) (w : Int) (g : Nat) : Int := if g < conds.length then orU' w (conds.getD g 0) else w
theorem levA_all {k : Nat} (hk : code.length ≤ k) : levA code conds base a k = levA code conds base a code.length := by
  obtain ⟨d, rfl⟩ : ∃ d, k = code.length + d := ⟨k - code.length, by omega⟩
  clear hk
  induction d with
  | zero => rfl
  | succ d ih =>
    rw [← ih]
    show levA code conds base a (code.length + d + 1) = _
    simp only [levA]
    rw [if_neg fun q => by have := q.2.1; omega]
theorem want_lev (hb : IsU base) : ∀ k, (govL code a k).foldl (wantN conds) base = levA code conds base a (min k conds.length)
  | 0 => by rw [Nat.zero_min]; rfl
  | k + 1 => by
    have ih := want_lev hb k
    simp only [govL]
    by_cases hk : k < conds.length
    · rw [Nat.min_eq_left (by omega)] at ih ⊢
      simp only [levA]
      by_cases hr : Reg code k a
      · rw [if_pos hr, List.foldl_append, List.foldl_cons, List.foldl_nil, ih]
        unfold wantN
        rw [if_pos hk]
        by_cases hc : conds.getD k 0 = 0
        · rw [if_neg fun q => q.1 hc, hc, or_0 (levA_U hb k)]
        · rw [if_pos ⟨hc, hr⟩]
      · rw [if_neg hr, ih, if_neg fun q => hr q.2]
    · rw [Nat.min_eq_right (by omega)] at ih ⊢
      split
      · rw [List.foldl_append, List.foldl_cons, List.foldl_nil, ih]
        unfold wantN
        rw [if_neg hk]
      · exact ih
/-- The level is what governs. -/
theorem want_ok (hb : IsU base) : (govL code a code.length).foldl (wantN conds) base = levA code conds base a conds.length := by
  rw [want_lev hb]
  rcases Nat.le_total code.length conds.length with h | h
  · rw [Nat.min_eq_left h, levA_all h]
  · rw [Nat.min_eq_right h]
/-- With more it is no less, and no more than by that. -/
theorem lev_more (h0 : lb base' = lb base ||| lb more) (hc : ∀ k, lb (conds'.getD k 0) = lb (conds.getD k 0) ∨ lb (conds'.getD k 0) = lb (conds.getD k 0) ||| lb more) : ∀ k, Sub (lb (levA code conds base a k)) (lb (levA code conds' base' a k)) ∧ Sub (lb (levA code conds' base' a k)) (lb (orU' (levA code conds base a k) more))
  | 0 => by
    rw [lb_or]
    show Sub (lb base) (lb base') ∧ Sub (lb base') (lb base ||| lb more)
    rw [h0]
    exact ⟨fun i hi => by rw [BitVec.getLsbD_or, hi]; rfl, fun i hi => hi⟩
  | k + 1 => by
    obtain ⟨i1, i2⟩ := lev_more h0 hc k
    rw [lb_or] at i2 ⊢
    rw [levA_lb, levA_lb]
    by_cases hr : Reg code k a
    · rw [if_pos hr, if_pos hr]
      have hk := hc k
      constructor
      · intro i hi
        rw [BitVec.getLsbD_or, Bool.or_eq_true] at hi ⊢
        rcases hi with hi | hi
        · exact .inl (i1 i hi)
        · right
          rcases hk with e | e
          · rw [e]; exact hi
          · rw [e, BitVec.getLsbD_or, hi]; rfl
      · intro i hi
        rw [BitVec.getLsbD_or, Bool.or_eq_true] at hi
        rw [BitVec.getLsbD_or, BitVec.getLsbD_or, Bool.or_eq_true, Bool.or_eq_true]
        rcases hi with hi | hi
        · have := i2 i hi
          rw [BitVec.getLsbD_or, Bool.or_eq_true] at this
          rcases this with w | w
          · exact .inl (.inl w)
          · exact .inr w
        · rcases hk with e | e
          · rw [e] at hi; exact .inl (.inr hi)
          · rw [e, BitVec.getLsbD_or, Bool.or_eq_true] at hi
            rcases hi with w | w
            · exact .inl (.inr w)
            · exact .inr w
    · rw [if_neg hr, if_neg hr]
      exact ⟨i1, i2⟩
end
/-- One condition with more. -/
noncomputable def moreAt (conds : List Int) (t : Int) (more : Int) : List Int := if 0 ≤ t ∧ t < (conds.length : Nat) then conds.set t.toNat (orU' (conds.getD t.toNat 0) more) else conds
theorem moreAt_len {conds : List Int} {t more : Int} : (moreAt conds t more).length = conds.length := by
  unfold moreAt; split
  · exact List.length_set
  · rfl
theorem moreAt_lb {conds : List Int} {t more : Int} (k : Nat) : lb ((moreAt conds t more).getD k 0) = lb (conds.getD k 0) ∨ lb ((moreAt conds t more).getD k 0) = lb (conds.getD k 0) ||| lb more := by
  unfold moreAt; split
  · next h =>
    by_cases e : k = t.toNat
    · subst e
      right
      rw [List.getD_eq_getElem?_getD, List.getElem?_set_self (by omega), Option.getD_some, lb_or]
    · left
      rw [List.getD_eq_getElem?_getD, List.getElem?_set_ne (Ne.symm e), List.getD_eq_getElem?_getD]
  · exact .inl rfl
end Go.Proofs.Ytollibkfagjnaaa.Graph
