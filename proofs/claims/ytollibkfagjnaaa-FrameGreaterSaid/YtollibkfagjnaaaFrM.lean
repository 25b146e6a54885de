/- Greater labels make greater ones: plain law. -/
import Derived.Test.YtollibkfagjnaaaFrJ
import Derived.Test.YtollibkfagjnaaaShapeKitQ
set_option linter.unusedVariables false
set_option linter.unusedSimpArgs false
set_option maxRecDepth 10000
namespace Go.Proofs.Ytollibkfagjnaaa.Shape.Kit
open Go.Proofs.Ytollibkfagjnaaa.AM
/-- One label within another, bit by bit. -/
def Le (a b : Int) : Prop := ∀ i, i < 64 → (bv a).getLsbD i = true → (bv b).getLsbD i = true
theorem Le.refl (a : Int) : Le a a := fun _ _ h => h
theorem Le.trans {a b c : Int} (h : Le a b) (k : Le b c) : Le a c := fun i hi x => k i hi (h i hi x)
theorem or_bit (a b : Int) (i : Nat) : (bv (orU a b)).getLsbD i = ((bv a).getLsbD i || (bv b).getLsbD i) := by rw [bv_orU, BitVec.getLsbD_or]
theorem le_or {a b c d : Int} (h : Le a b) (k : Le c d) : Le (orU a c) (orU b d) := fun i hi x => by
  rw [or_bit, Bool.or_eq_true] at x ⊢
  rcases x with x | x
  · exact .inl (h i hi x)
  · exact .inr (k i hi x)
theorem le_orl (a b : Int) : Le a (orU a b) := fun i hi x => by rw [or_bit, x, Bool.true_or]
theorem le_orr (a b : Int) : Le b (orU a b) := fun i hi x => by rw [or_bit, x, Bool.or_true]
theorem inU_bv (a b : Int) : inU a b = decide (bv a &&& ~~~ bv b = 0#64) := by
  have hlt := (bv a &&& ~~~ bv b).isLt
  have e : subU a b = (((bv a &&& ~~~ bv b).toNat : Nat) : Int) := by
    show (((BitVec.ofInt 64 a &&& ~~~ BitVec.ofInt 64 b).toNat : Int)) % 18446744073709551616 = _
    unfold bv at *
    omega
  unfold inU
  rw [e]
  by_cases h : bv a &&& ~~~ bv b = 0#64
  · rw [h, decide_eq_true rfl]; rfl
  · rw [decide_eq_false h, beq_eq_false_iff_ne]
    intro x
    apply h
    apply BitVec.eq_of_toNat_eq
    have : (bv a &&& ~~~ bv b).toNat = 0 := by omega
    rw [this]; rfl
theorem inU_le {a b : Int} : inU a b = true ↔ Le a b := by
  rw [inU_bv, decide_eq_true_eq]
  constructor
  · intro h i hi x
    have := congrArg (fun v => v.getLsbD i) h
    simp only [BitVec.getLsbD_and, BitVec.getLsbD_not, hi, decide_true, Bool.true_and, x, BitVec.getLsbD_zero] at this
    simpa using this
  · intro h
    apply BitVec.eq_of_getLsbD_eq
    intro i hi
    simp only [BitVec.getLsbD_and, BitVec.getLsbD_not, hi, decide_true, Bool.true_and, BitVec.getLsbD_zero]
    cases hx : (bv a).getLsbD i with
    | false => simp
    | true => rw [h i hi hx]; simp
inductive LeL : List Int → List Int → Prop
  | nil : LeL [] []
  | cons {a b : Int} {l k : List Int} (h : Le a b) (t : LeL l k) : LeL (a :: l) (b :: k)
theorem LeL.refl : ∀ l, LeL l l
  | [] => .nil
  | a :: l => .cons (Le.refl a) (LeL.refl l)
theorem LeL.len {l k : List Int} (h : LeL l k) : l.length = k.length := by
  induction h with
  | nil => rfl
  | cons _ _ ih => simp [ih]
theorem LeL.at' {l k : List Int} (h : LeL l k) : ∀ i, Le (l.getD i 0) (k.getD i 0) := by
  induction h with
  | nil => exact fun i => Le.refl _
  | cons h t ih =>
    intro i
    cases i with
    | zero => exact h
    | succ i => exact ih i
theorem LeL.take {l k : List Int} (h : LeL l k) : ∀ n, LeL (l.take n) (k.take n) := by
  induction h with
  | nil => intro n; rw [List.take_nil]; exact .nil
  | cons h t ih =>
    intro n
    cases n with
    | zero => exact .nil
    | succ n => exact .cons h (ih n)
theorem LeL.drop {l k : List Int} (h : LeL l k) : ∀ n, LeL (l.drop n) (k.drop n) := by
  induction h with
  | nil => intro n; rw [List.drop_nil]; exact .nil
  | cons h t ih =>
    intro n
    cases n with
    | zero => exact .cons h t
    | succ n => exact ih n
theorem LeL.append {l k l' k' : List Int} (h : LeL l k) (h' : LeL l' k') : LeL (l ++ l') (k ++ k') := by
  induction h with
  | nil => exact h'
  | cons h t ih => exact .cons h ih
theorem LeL.set {l k : List Int} (h : LeL l k) {x y : Int} (hx : Le x y) : ∀ n, LeL (l.set n x) (k.set n y) := by
  induction h with
  | nil => exact fun n => .nil
  | cons h t ih =>
    intro n
    cases n with
    | zero => exact .cons hx t
    | succ n => exact .cons h (ih n)
theorem LeL.foldl {l k : List Int} (h : LeL l k) : ∀ {a b : Int}, Le a b → Le (l.foldl orU a) (k.foldl orU b) := by
  induction h with
  | nil => exact fun h => h
  | cons h t ih => exact fun h' => ih (le_or h' h)
theorem le_fold : ∀ (l : List Int) (a : Int), Le a (l.foldl orU a)
  | [], a => Le.refl a
  | x :: l, a => (le_orl a x).trans (le_fold l _)
theorem LeL.map {l : List Int} {a b : Int} (h : Le a b) : LeL (l.map fun x => orU x a) (l.map fun x => orU x b) := by
  induction l with
  | nil => exact .nil
  | cons x l ih => exact .cons (le_or (Le.refl x) h) ih
theorem LeL.of_join : ∀ {a b : List Int}, a.length = b.length → LeL a (joinL a b) ∧ LeL b (joinL a b)
  | [], [], _ => ⟨.nil, .nil⟩
  | x :: a, y :: b, h => by
    obtain ⟨h1, h2⟩ := LeL.of_join (a := a) (b := b) (by simpa using h)
    exact ⟨.cons (le_orl x y) h1, .cons (le_orr x y) h2⟩
theorem in_mono {a b c : Int} (h : Le a b) (k : inU b c = true) : inU a c = true := inU_le.2 (h.trans (inU_le.1 k))
theorem allIn_mono {l k : List Int} (h : LeL l k) {lv lv' : Int} (hv : Le lv lv') : ∀ r, allIn lv' k r = true → allIn lv l r = true := by
  induction h with
  | nil => exact fun r _ => rfl
  | cons h t ih =>
    intro r hr
    simp only [allIn, Bool.and_eq_true] at hr ⊢
    exact ⟨in_mono (le_or h hv) hr.1, ih _ hr.2⟩
/-- What is greater after a step. -/
structure LeS (S S' : SS) : Prop where
  st : LeL S.st S'.st
  lo : LeL S.lo S'.lo
  cd : Le S.cd S'.cd
  kp : S'.kp = true → S.kp = true
theorem ite_rel {c : Prop} [Decidable c] {A B A' B' : SS} (h1 : c → LeS A A') (h2 : ¬ c → LeS B B') : LeS (if c then A else B) (if c then A' else B') := by
  by_cases h : c
  · rw [if_pos h, if_pos h]; exact h1 h
  · rw [if_neg h, if_neg h]; exact h2 h
theorem stepS_mono {m : Md} {f : Nat} {op A : Int} {xs zs lo lo' : List Int} {lv lv' : Int} (hx : LeL xs zs) (hl : LeL lo lo') (hv : Le lv lv') : LeS (stepS m f op A xs lo lv) (stepS m f op A zs lo' lv') := by
  unfold stepS
  rw [← hx.len]
  obtain ⟨n, hn⟩ : ∃ n, xs.length - (effS m f op A).1.toNat = n := ⟨_, rfl⟩
  rw [hn]
  dsimp only
  have h1 := hx.take n
  have h2 := hx.drop n
  have h3 := h2.foldl hv
  have one : ∀ {a b : Int}, Le a b → LeL [a] [b] := fun h => .cons h .nil
  have two : ∀ {a b c d : Int}, Le a b → Le c d → LeL [a, c] [b, d] := fun h h' => .cons h (.cons h' .nil)
  refine ite_rel (fun _ => ⟨h1.append (one hv), hl, Le.refl _, fun _ => rfl⟩) fun _ => ?_
  refine ite_rel (fun _ => ⟨h1.append (one (le_or (hl.at' _) hv)), hl, Le.refl _, fun _ => rfl⟩) fun _ => ?_
  refine ite_rel (fun _ => ⟨h1, hl.set h3 _, Le.refl _, fun _ => rfl⟩) fun _ => ?_
  refine ite_rel (fun _ => ⟨h1.append (one (le_or (Le.refl _) hv)), hl, Le.refl _, fun _ => rfl⟩) fun _ => ?_
  refine ite_rel (fun _ => ⟨h1, hl, Le.refl _, in_mono (le_or h3 hv)⟩) fun _ => ?_
  refine ite_rel (fun _ => ⟨h1.append (one (le_or h3 (Le.refl _))), hl, Le.refl _, fun _ => rfl⟩) fun _ => ?_
  refine ite_rel (fun _ => ⟨h1, hl, Le.refl _, in_mono (le_or h3 hv)⟩) fun _ => ?_
  refine ite_rel (fun _ => ⟨h1.append (two h3 h3), hl, Le.refl _, fun _ => rfl⟩) fun _ => ?_
  refine ite_rel (fun _ => ⟨h1.append (two (le_or (h2.at' 1) hv) (le_or (h2.at' 0) hv)), hl, Le.refl _, fun _ => rfl⟩) fun _ => ?_
  refine ite_rel (fun _ => ⟨h1, hl, Le.refl _, fun _ => rfl⟩) fun _ => ?_
  refine ite_rel (fun _ => ⟨h1, hl, h3, fun _ => rfl⟩) fun _ => ?_
  refine ite_rel (fun _ => ⟨h1.append (LeL.map hv), hl, Le.refl _, fun h => ?_⟩) fun _ => ?_
  · simp only [Bool.and_eq_true] at h ⊢
    exact ⟨in_mono (le_or (Le.refl _) hv) h.1, allIn_mono h2 hv _ h.2⟩
  refine ite_rel (fun _ => ⟨h1, hl, Le.refl _, allIn_mono h2 hv _⟩) fun _ => ?_
  refine ite_rel (fun _ => ⟨h1, hl, Le.refl _, in_mono (le_or h3 hv)⟩) fun _ => ?_
  exact ⟨h1.append (one h3), hl, Le.refl _, fun _ => rfl⟩
/-- What is put on bears the level. -/
structure Puts (m : Md) (f : Nat) (op A : Int) (xs : List Int) (lv : Int) (S : SS) : Prop where
  st : ∃ tail : List Int, S.st = xs.take (xs.length - (effS m f op A).1.toNat) ++ tail ∧ (tail.length : Int) = (effS m f op A).2 ∧ ∀ e, e ∈ tail → Le lv e
  cd : op = 44 → Le lv S.cd
theorem ite_puts {c : Prop} [Decidable c] {P : SS → Prop} {A B : SS} (h1 : c → P A) (h2 : ¬ c → P B) : P (if c then A else B) := by
  by_cases h : c
  · rw [if_pos h]; exact h1 h
  · rw [if_neg h]; exact h2 h
theorem stepS_puts {m : Md} {f : Nat} {op A : Int} {xs lo : List Int} {lv : Int} (hop : (1 ≤ op ∧ op ≤ 17) ∨ (32 ≤ op ∧ op ≤ 47)) : Puts m f op A xs lv (stepS m f op A xs lo lv) := by
  have none' : ∀ {S : SS}, S.st = xs.take (xs.length - (effS m f op A).1.toNat) → (effS m f op A).2 = 0 → (op = 44 → Le lv S.cd) → Puts m f op A xs lv S := fun h h0 hc => ⟨⟨[], by rw [h, List.append_nil], by rw [h0]; rfl, fun e he => by cases he⟩, hc⟩
  have one : ∀ {S : SS} {a : Int}, S.st = xs.take (xs.length - (effS m f op A).1.toNat) ++ [a] → (effS m f op A).2 = 1 → Le lv a → op ≠ 44 → Puts m f op A xs lv S := fun h h0 ha hc => ⟨⟨_, h, by rw [h0]; rfl, fun e he => by rw [List.mem_singleton] at he; rw [he]; exact ha⟩, fun h => absurd h hc⟩
  have two : ∀ {S : SS} {a b : Int}, S.st = xs.take (xs.length - (effS m f op A).1.toNat) ++ [a, b] → (effS m f op A).2 = 2 → Le lv a → Le lv b → op ≠ 44 → Puts m f op A xs lv S := fun h h0 ha hb hc => ⟨⟨_, h, by rw [h0]; rfl, fun e he => by
    simp only [List.mem_cons, List.not_mem_nil, or_false] at he
    rcases he with rfl | rfl
    · exact ha
    · exact hb⟩, fun h => absurd h hc⟩
  have all := le_fold (xs.drop (xs.length - (effS m f op A).1.toNat)) lv
  unfold stepS
  dsimp only
  refine ite_puts (fun h => one rfl (by subst h; rfl) (Le.refl _) (by omega)) fun g1 => ?_
  refine ite_puts (fun h => one rfl (by subst h; rfl) (le_orr _ _) (by omega)) fun g2 => ?_
  refine ite_puts (fun h => none' rfl (by subst h; rfl) (fun h' => by omega)) fun g3 => ?_
  refine ite_puts (fun h => one rfl (by subst h; rfl) (le_orr _ _) (by omega)) fun g4 => ?_
  refine ite_puts (fun h => none' rfl (by subst h; rfl) (fun h' => by omega)) fun g5 => ?_
  refine ite_puts (fun h => one rfl (by subst h; rfl) (all.trans (le_orl _ _)) (by omega)) fun g6 => ?_
  refine ite_puts (fun h => none' rfl (by subst h; rfl) (fun h' => by omega)) fun g7 => ?_
  refine ite_puts (fun h => two rfl (by subst h; rfl) all all (by omega)) fun g8 => ?_
  refine ite_puts (fun h => two rfl (by subst h; rfl) (le_orr _ _) (le_orr _ _) (by omega)) fun g9 => ?_
  refine ite_puts (fun h => none' rfl (by rcases h with h | h | h <;> (subst h; rfl)) (fun h' => by omega)) fun g10 => ?_
  refine ite_puts (fun h => none' rfl (by subst h; rfl) (fun _ => all)) fun g11 => ?_
  refine ite_puts (fun h => ⟨⟨_, rfl, by subst h; simp [effS], fun e he => ?_⟩, fun h' => by omega⟩) fun g12 => ?_
  · obtain ⟨x, _, rfl⟩ := List.mem_map.1 he
    exact le_orr _ _
  refine ite_puts (fun h => none' rfl (by subst h; rfl) (fun h' => by omega)) fun g13 => ?_
  refine ite_puts (fun h => none' rfl (by subst h; rfl) (fun h' => by omega)) fun g14 => ?_
  refine one rfl ?_ all g11
  unfold effS
  rw [if_neg (by omega), if_neg (by omega), if_neg (by omega), if_neg (by omega), if_neg (by omega), if_neg (by omega), if_neg (by omega), if_neg (by omega), if_neg (by omega)]
  split <;> rfl
end Go.Proofs.Ytollibkfagjnaaa.Shape.Kit
