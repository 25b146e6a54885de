/- Whole numbers as floats: small ones, by the kernel's own run. Operations on floats and complex numbers, as the machine has them. Places and quarters: plain law. Quarters by whole numbers. PUT TOGETHER by merge.py. -/
import Derived.Test.YtggaimcopbjdiaaAMb
import Derived.KernelRfl
set_option linter.unusedVariables false
set_option linter.unusedSimpArgs false
set_option maxRecDepth 100000
namespace Go.Proofs.Ytggaimcopbjdiaa.AM
def zb (n : Int) : Nat := FloatKind.f64.nearest n
def zneg : Nat := 9223372036854775808
def zone : Nat := 4607182418800017408
def Rp (x : Nat) (n : Int) : Prop := (-25 ≤ n ∧ n ≤ 25) ∧ (x = zb n ∨ (n = 0 ∧ x = zneg))
def isRp (x : Nat) (n : Int) : Bool := Nat.beq x (zb n) || (decide (n = 0) && Nat.beq x zneg)
def reps : List (Nat × Int) := (zneg, 0) :: (List.range 51).map fun (k : Nat) => (zb ((k : Int) - 25), (k : Int) - 25)
theorem Rp.mem {x : Nat} {n : Int} (h : Rp x n) : (x, n) ∈ reps := by
  obtain ⟨⟨h1, h2⟩, rfl | ⟨rfl, rfl⟩⟩ := h
  · refine List.mem_cons_of_mem _ (List.mem_map.2 ⟨(n + 25).toNat, List.mem_range.2 (by omega), ?_⟩)
    rw [show (((n + 25).toNat : Nat) : Int) - 25 = n by omega]
  · exact List.mem_cons_self ..
theorem Rp.of {x : Nat} {n : Int} (h1 : -25 ≤ n ∧ n ≤ 25) (h : isRp x n = true) : Rp x n := by
  refine ⟨h1, ?_⟩
  unfold isRp at h
  simp only [Bool.or_eq_true, Bool.and_eq_true, decide_eq_true_eq, Nat.beq_eq] at h
  exact h
theorem Rp.nearest {n : Int} (h1 : -25 ≤ n ∧ n ≤ 25) : Rp (zb n) n := ⟨h1, .inl rfl⟩
abbrev dbl : Ieee.Format := Ieee.double
def cmulI (x y : Nat) : Option (Nat × Nat) :=
  match dbl.mul x 0, dbl.mul y zone, dbl.mul x zone, dbl.mul y 0 with
  | some a, some b, some c, some d => (match dbl.sub a b, dbl.add c d with
    | some r, some i => some (r, i)
    | _, _ => none)
  | _, _, _, _ => none
def isZ (z : Nat) : Bool := Nat.beq z 0 || Nat.beq z zneg
theorem m0_all : (reps.all fun p => match dbl.mul p.1 0 with | some z => isZ z | none => false) = true := by kernel_rfl
theorem m1_all : (reps.all fun p => match dbl.mul p.1 zone with | some z => Nat.beq z p.1 | none => false) = true := by kernel_rfl
theorem sb_all : ([0, zneg].all fun z => reps.all fun p => match dbl.sub z p.1 with | some w => isRp w (-p.2) | none => false) = true := by kernel_rfl
theorem ad_all : ([0, zneg].all fun z => reps.all fun p => match dbl.add p.1 z with | some w => isRp w p.2 | none => false) = true := by kernel_rfl
theorem m0_ok {x : Nat} {n : Int} (hx : Rp x n) : ∃ z, dbl.mul x 0 = some z ∧ z ∈ [0, zneg] := by
  have h := List.all_eq_true.1 m0_all _ hx.mem
  cases hc : dbl.mul x 0 with
  | none => simp only [hc] at h; cases h
  | some z =>
    simp only [hc, isZ, Bool.or_eq_true, Nat.beq_eq] at h
    refine ⟨z, rfl, ?_⟩
    rcases h with rfl | rfl
    · exact List.mem_cons_self ..
    · exact List.mem_cons_of_mem _ (List.mem_cons_self ..)
theorem m1_ok {x : Nat} {n : Int} (hx : Rp x n) : dbl.mul x zone = some x := by
  have h := List.all_eq_true.1 m1_all _ hx.mem
  cases hc : dbl.mul x zone with
  | none => simp only [hc] at h; cases h
  | some z => simp only [hc, Nat.beq_eq] at h; rw [h]
theorem sb_ok {x z : Nat} {n : Int} (hz : z ∈ [0, zneg]) (hx : Rp x n) : ∃ w, dbl.sub z x = some w ∧ Rp w (-n) := by
  have h := List.all_eq_true.1 (List.all_eq_true.1 sb_all _ hz) _ hx.mem
  obtain ⟨h1, _⟩ := hx
  cases hc : dbl.sub z x with
  | none => simp only [hc] at h; cases h
  | some w => simp only [hc] at h; exact ⟨w, rfl, Rp.of (by omega) h⟩
theorem ad_ok {x z : Nat} {n : Int} (hz : z ∈ [0, zneg]) (hx : Rp x n) : ∃ w, dbl.add x z = some w ∧ Rp w n := by
  have h := List.all_eq_true.1 (List.all_eq_true.1 ad_all _ hz) _ hx.mem
  obtain ⟨h1, _⟩ := hx
  cases hc : dbl.add x z with
  | none => simp only [hc] at h; cases h
  | some w => simp only [hc] at h; exact ⟨w, rfl, Rp.of h1 h⟩
/-- A place turned by a quarter. -/
theorem mulI_ok {x y : Nat} {n m : Int} (hx : Rp x n) (hy : Rp y m) : ∃ r i, cmulI x y = some (r, i) ∧ Rp r (-m) ∧ Rp i n := by
  obtain ⟨a, a1, a2⟩ := m0_ok hx
  obtain ⟨d, d1, d2⟩ := m0_ok hy
  obtain ⟨r, r1, r2⟩ := sb_ok a2 hy
  obtain ⟨i, i1, i2⟩ := ad_ok d2 hx
  exact ⟨r, i, by unfold cmulI; simp only [a1, d1, m1_ok hx, m1_ok hy, r1, i1], r2, i2⟩
theorem eq_all : (reps.all fun p => reps.all fun q => (dbl.order p.1 q.1 == some .eq) == decide (p.2 = q.2)) = true := by kernel_rfl
theorem eq_ok {x y : Nat} {n m : Int} (hx : Rp x n) (hy : Rp y m) : (dbl.order x y == some .eq) = decide (n = m) := by
  have h := List.all_eq_true.1 (List.all_eq_true.1 eq_all _ hx.mem) _ hy.mem
  exact eq_of_beq h
theorem neg_all : (reps.all fun p => isRp (Op.negFloat .f64 p.1) (-p.2)) = true := by kernel_rfl
theorem neg_ok {x : Nat} {n : Int} (hx : Rp x n) : Rp (Op.negFloat .f64 x) (-n) := by
  have h := List.all_eq_true.1 neg_all _ hx.mem
  obtain ⟨h1, _⟩ := hx
  exact Rp.of (by omega) h
theorem sq_all : (reps.all fun p => match dbl.mul p.1 p.1 with | some r => Nat.beq r (zb (p.2 * p.2)) | none => false) = true := by kernel_rfl
theorem sq_ok {x : Nat} {n : Int} (hx : Rp x n) : dbl.mul x x = some (zb (n * n)) := by
  have h := List.all_eq_true.1 sq_all _ hx.mem
  dsimp only at h
  cases hc : dbl.mul x x with
  | none => rw [hc] at h; cases h
  | some r => rw [hc] at h; simp only [Nat.beq_eq] at h; rw [h]
theorem sum_all : ((List.range 26).all fun (a : Nat) => (List.range 26).all fun (b : Nat) => match dbl.add (zb ((a : Int) * a)) (zb ((b : Int) * b)) with | some r => Nat.beq r (zb ((a : Int) * a + (b : Int) * b)) && (dbl.order r r == some .eq) | none => false) = true := by kernel_rfl
theorem sum_ok {n m : Int} (h1 : -25 ≤ n ∧ n ≤ 25) (h2 : -25 ≤ m ∧ m ≤ 25) : dbl.add (zb (n * n)) (zb (m * m)) = some (zb (n * n + m * m)) ∧ (dbl.order (zb (n * n + m * m)) (zb (n * n + m * m)) == some .eq) = true := by
  have e1 : n * n = (n.natAbs : Int) * n.natAbs := (Int.natAbs_mul_self' n).symm
  have e2 : m * m = (m.natAbs : Int) * m.natAbs := (Int.natAbs_mul_self' m).symm
  have h := List.all_eq_true.1 (List.all_eq_true.1 sum_all n.natAbs (List.mem_range.2 (by omega))) m.natAbs (List.mem_range.2 (by omega))
  rw [e1, e2]
  cases hc : dbl.add (zb ((n.natAbs : Int) * n.natAbs)) (zb ((m.natAbs : Int) * m.natAbs)) with
  | none => simp only [hc] at h; cases h
  | some r =>
    simp only [hc, Bool.and_eq_true, Nat.beq_eq] at h
    obtain ⟨rfl, h⟩ := h
    exact ⟨rfl, h⟩
end Go.Proofs.Ytggaimcopbjdiaa.AM

namespace Go.Proofs.Ytggaimcopbjdiaa.AM
theorem pr_bind {α β : Type} (P : Program) (m : Sem α) (f : α → Sem β) : pureRun P (m >>= f) = (pureRun P m).bind fun a => pureRun P (f a) := by
  induction m with
  | pure a => rfl
  | program k ih => exact ih P
  | mark s k ih => exact ih
  | _ => rfl
theorem pr_pure {α : Type} (P : Program) (a : α) : pureRun P (pure a : Sem α) = some a := rfl
theorem aflat_of {P : Program} {o : FOp} {vs : List Value} {v : Value} (h1 : vs.all flat = true) (h2 : pureRun P (flatSem o vs) = some v) (h3 : flat v = true) : aflat P o vs = some v := by
  unfold aflat
  rw [if_pos h1, h2]
  show (if flat v = true then some v else none) = some v
  rw [if_pos h3]
theorem pr_arith {P : Program} {op : BinOp} {x y r : Nat} (h : (match op with | .add => dbl.add x y | .sub => dbl.sub x y | .mul => dbl.mul x y | _ => none) = some r) (ho : op = .add ∨ op = .sub ∨ op = .mul) : pureRun P (Op.floatArith op .f64 x y) = some (.float .f64 r) := by
  unfold Op.floatArith
  rcases ho with rfl | rfl | rfl <;>
  · simp only [pr_bind, pr_pure, Option.bind_some]
    dsimp only at h
    rw [show FloatKind.f64.format = dbl from rfl, h]
    rfl
theorem pr_carith {P : Program} {op : BinOp} {x y r : Nat} (h : (match op with | .add => dbl.add x y | .sub => dbl.sub x y | .mul => dbl.mul x y | _ => none) = some r) (ho : op = .add ∨ op = .sub ∨ op = .mul) : pureRun P (Op.Complex.arith op .f64 x y) = some r := by
  unfold Op.Complex.arith
  rw [pr_bind, pr_arith h ho]
  rfl
theorem flat_mulI {P : Program} {t : TypeId} {xo yo : Operand} {x y r i : Nat} (h : cmulI x y = some (r, i)) : aflat P (.bin .mul t xo yo) [.complex .f64 x y, .complex .f64 0 zone] = some (.complex .f64 r i) := by
  obtain ⟨a, b, c, d, h1, h2, h3, h4, h5, h6⟩ : ∃ a b c d, dbl.mul x 0 = some a ∧ dbl.mul y zone = some b ∧ dbl.mul x zone = some c ∧ dbl.mul y 0 = some d ∧ dbl.sub a b = some r ∧ dbl.add c d = some i := by
    unfold cmulI at h
    cases e1 : dbl.mul x 0 <;> cases e2 : dbl.mul y zone <;> cases e3 : dbl.mul x zone <;> cases e4 : dbl.mul y 0 <;> simp only [e1, e2, e3, e4] at h <;> try (cases h; done)
    rename_i a b c d
    cases e5 : dbl.sub a b <;> cases e6 : dbl.add c d <;> simp only [e5, e6] at h <;> try (cases h; done)
    rename_i r' i'
    cases h
    exact ⟨a, b, c, d, rfl, rfl, rfl, rfl, e5, e6⟩
  have hp : pureRun P (Op.Complex.product x y 0 zone) = some (r, i) := by
    unfold Op.Complex.product Op.Complex.mul Op.Complex.sub Op.Complex.add
    simp only [pr_bind, pr_pure]
    rw [pr_carith (op := .mul) h1 (.inr (.inr rfl)), Option.bind_some, pr_carith (op := .mul) h2 (.inr (.inr rfl)), Option.bind_some, pr_carith (op := .sub) h5 (.inr (.inl rfl)), Option.bind_some, pr_carith (op := .mul) h3 (.inr (.inr rfl)), Option.bind_some, pr_carith (op := .mul) h4 (.inr (.inr rfl)), Option.bind_some, pr_carith (op := .add) h6 (.inl rfl), Option.bind_some]
  have hc : ∀ z : Nat, pureRun P (Op.Complex.conv .f64 z .f64) = some z := fun z => rfl
  have hm : pureRun P (Op.complexOp .mul .f64 x y 0 zone) = some (.complex .f64 r i) := by
    unfold Op.complexOp
    simp only [pr_bind, pr_pure, hc, Option.bind_some, beq_self_eq_true, if_true, hp]
  refine aflat_of rfl ?_ rfl
  show pureRun P (flatSem (.bin .mul t xo yo) [.complex .f64 x y, .complex .f64 0 zone]) = some (.complex .f64 r i)
  show pureRun P (eqGuard .mul t xo yo _ _ >>= fun _ => binOp .mul t _ _) = _
  rw [pr_bind, show pureRun P (eqGuard .mul t xo yo (.complex .f64 x y) (.complex .f64 0 zone)) = some () from rfl, Option.bind_some]
  exact hm
theorem pr_ccmp {P : Program} {op : BinOp} {x y : Nat} (ho : op = .eql) : pureRun P (Op.Complex.cmp op .f64 x y) = some (dbl.order x y == some .eq) := by
  subst ho
  rfl
theorem flat_cneq {P : Program} {t : TypeId} {xo yo : Operand} {x y u v : Nat} : aflat P (.bin .neq t xo yo) [.complex .f64 x y, .complex .f64 u v] = some (.bool (!((dbl.order x u == some .eq) && (dbl.order y v == some .eq)))) := by
  have hm : pureRun P (Op.complexOp .neq .f64 x y u v) = some (.bool (!((dbl.order x u == some .eq) && (dbl.order y v == some .eq)))) := by
    unfold Op.complexOp
    simp only [pr_bind, pr_pure, pr_ccmp rfl, Option.bind_some]
  refine aflat_of rfl ?_ rfl
  show pureRun P (flatSem (.bin .neq t xo yo) [.complex .f64 x y, .complex .f64 u v]) = some (.bool (!((dbl.order x u == some .eq) && (dbl.order y v == some .eq))))
  show pureRun P (eqGuard .neq t xo yo _ _ >>= fun _ => binOp .neq t _ _) = _
  rw [pr_bind, show pureRun P (eqGuard .neq t xo yo (.complex .f64 x y) (.complex .f64 u v)) = some () from rfl, Option.bind_some]
  exact hm
theorem flat_arith {P : Program} {op : BinOp} {t : TypeId} {xo yo : Operand} {x y r : Nat} (h : (match op with | .add => dbl.add x y | .sub => dbl.sub x y | .mul => dbl.mul x y | _ => none) = some r) (ho : op = .add ∨ op = .sub ∨ op = .mul) : aflat P (.bin op t xo yo) [.float .f64 x, .float .f64 y] = some (.float .f64 r) := by
  refine aflat_of rfl ?_ rfl
  show pureRun P (flatSem (.bin op t xo yo) [.float .f64 x, .float .f64 y]) = some (.float .f64 r)
  have := pr_arith (P := P) h ho
  rcases ho with rfl | rfl | rfl <;> exact this
theorem flat_fneq {P : Program} {t : TypeId} {xo yo : Operand} {x y : Nat} : aflat P (.bin .neq t xo yo) [.float .f64 x, .float .f64 y] = some (.bool (!(dbl.order x y == some .eq))) := rfl
theorem flat_neg {P : Program} {x : Nat} : aflat P (.un .neg) [.float .f64 x] = some (.float .f64 (Op.negFloat .f64 x)) := rfl
theorem flat_ineg {P : Program} {a : Int} (h1 : -9223372036854775807 ≤ a) (h2 : a ≤ 9223372036854775807) : aflat P (.un .neg) [.int .i64 a] = some (.int .i64 (-a)) := by
  refine aflat_of rfl ?_ rfl
  show some (Value.int .i64 (IntKind.i64.wrap (0 - a))) = _
  have : IntKind.i64.wrap (0 - a) = -a := by
    rw [← aw_eq]
    rw [aw64 (by omega) (by omega)]
    omega
  rw [this]
theorem flat_cplx {P : Program} {ts : Array TypeId} {t : TypeId} {x y : Nat} : aflat P (.cplx ts t) [.float .f64 x, .float .f64 y] = some (.complex .f64 x y) := rfl
theorem flat_re {P : Program} {ts : Array TypeId} {t : TypeId} {x y : Nat} : aflat P (.re ts t) [.complex .f64 x y] = some (.float .f64 x) := rfl
theorem flat_im {P : Program} {ts : Array TypeId} {t : TypeId} {x y : Nat} : aflat P (.im ts t) [.complex .f64 x y] = some (.float .f64 y) := rfl
theorem flat_conv {P : Program} {s d : TypeId} (h1 : P.underlying s = some (.int .i64)) (h2 : P.underlying d = some (.float .f64)) (n : Int) : aflat P (.conv s d) [.int .i64 n] = some (.float .f64 (zb n)) := by
  have hu : ∀ (t : TypeId) (D : TypeDesc), P.underlying t = some D → pureRun P (underlying t) = some D := fun t D h => by
    unfold underlying
    rw [pr_bind]
    show (some P).bind _ = _
    simp only [Option.bind_some, h]
    rfl
  refine aflat_of rfl ?_ rfl
  show pureRun P (flatSem (.conv s d) [.int .i64 n]) = some (.float .f64 (zb n))
  show pureRun P (convert s d (.int .i64 n)) = _
  unfold convert
  simp only [pr_bind, hu _ _ h1, hu _ _ h2, Option.bind_some]
  rfl
end Go.Proofs.Ytggaimcopbjdiaa.AM

namespace Go.Proofs.Ytggaimcopbjdiaa.AM
def incAt (l : List Int) (a : Nat) : List Int := l.set a (l.getD a 0 + 1)
theorem incAt_len (l : List Int) (a : Nat) : (incAt l a).length = l.length := by unfold incAt; rw [List.length_set]
theorem incAt_at {l : List Int} {a j : Nat} (ha : a < l.length) : (incAt l a).getD j 0 = l.getD j 0 + (if j = a then 1 else 0) := by
  unfold incAt
  by_cases e : a = j
  · subst e
    rw [if_pos rfl]
    simp only [List.getD_eq_getElem?_getD, List.getElem?_set_self ha, Option.getD_some]
  · rw [if_neg (fun h => e h.symm)]
    simp only [List.getD_eq_getElem?_getD, List.getElem?_set_ne e]
    omega
def colB (os : List Nat) (l : List Int) : List Int := os.foldl incAt l
theorem colB_len : ∀ (os : List Nat) (l : List Int), (colB os l).length = l.length
  | [], l => rfl
  | a :: os, l => by
    have := colB_len os (incAt l a)
    rw [incAt_len] at this
    exact this
theorem colB_at : ∀ (os : List Nat) (l : List Int), os.Nodup → (∀ a, a ∈ os → a < l.length) → ∀ j, l.getD j 0 ≤ (colB os l).getD j 0 ∧ (colB os l).getD j 0 ≤ l.getD j 0 + (if j ∈ os then 1 else 0)
  | [], l, _, _, j => ⟨Int.le_refl _, by simp [colB]⟩
  | a :: os, l, hn, hl, j => by
    obtain ⟨n1, n2⟩ := List.nodup_cons.1 hn
    have ih := colB_at os (incAt l a) n2 (fun b hb => by rw [incAt_len]; exact hl b (List.mem_cons_of_mem _ hb)) j
    rw [incAt_at (hl a (List.mem_cons_self ..))] at ih
    show _ ≤ (colB os (incAt l a)).getD j 0 ∧ (colB os (incAt l a)).getD j 0 ≤ _
    by_cases e : j = a
    · subst e
      rw [if_pos rfl, if_neg n1] at ih
      rw [if_pos (List.mem_cons_self ..)]
      omega
    · rw [if_neg e] at ih
      by_cases m : j ∈ os
      · rw [if_pos m] at ih
        rw [if_pos (List.mem_cons_of_mem _ m)]
        omega
      · rw [if_neg m] at ih
        rw [if_neg (by rw [List.mem_cons]; exact fun h => h.elim e m)]
        omega
/-- How many of the first k rows hold each place. -/
def colN (os : Nat → List Nat) (n : Nat) : Nat → List Int
  | 0 => List.replicate n 0
  | k + 1 => colB (os k) (colN os n k)
theorem colN_len (os : Nat → List Nat) (n : Nat) : ∀ k, (colN os n k).length = n
  | 0 => List.length_replicate
  | k + 1 => by unfold colN; rw [colB_len]; exact colN_len os n k
theorem colN_at {os : Nat → List Nat} {n : Nat} (hn : ∀ b, (os b).Nodup) (hl : ∀ b a, a ∈ os b → a < n) : ∀ k j, 0 ≤ (colN os n k).getD j 0 ∧ (colN os n k).getD j 0 ≤ k
  | 0, j => by
    unfold colN
    simp only [List.getD_eq_getElem?_getD, List.getElem?_replicate]
    split <;> simp
  | k + 1, j => by
    obtain ⟨h1, h2⟩ := colN_at hn hl k j
    obtain ⟨q1, q2⟩ := colB_at (os k) (colN os n k) (hn k) (fun a ha => by rw [colN_len]; exact hl k a ha) j
    unfold colN
    have : (if j ∈ os k then (1 : Int) else 0) ≤ 1 := by split <;> omega
    omega
/-- Places as they are told. -/
def plcZ (cols : List Int) : List (Nat × Nat) := (List.range cols.length).map fun (a : Nat) => (zb (cols.getD a 0), zb (-(a : Int)))
def plcI (cols : List Int) : List (Int × Int) := (List.range cols.length).map fun (a : Nat) => (cols.getD a 0, -(a : Int))
def rot1 (p : Int × Int) : Int × Int := (-p.2, p.1)
def rotN : Nat → Int × Int → Int × Int
  | 0, p => p
  | k + 1, p => rot1 (rotN k p)
theorem rotN_add (a b : Nat) (p : Int × Int) : rotN (a + b) p = rotN a (rotN b p) := by
  induction a with
  | zero => rw [Nat.zero_add]; rfl
  | succ a ih => rw [Nat.succ_add]; show rot1 _ = rot1 _; rw [ih]
theorem rotN_4 (p : Int × Int) : rotN 4 p = p := by
  obtain ⟨x, y⟩ := p
  simp [rotN, rot1]
theorem rotN_mod (k : Nat) (p : Int × Int) : rotN k p = rotN (k % 4) p := by
  induction k using Nat.strongRecOn with
  | ind k ih =>
    by_cases h : k < 4
    · rw [Nat.mod_eq_of_lt h]
    · have e : k = (k - 4) + 4 := by omega
      rw [e, rotN_add, rotN_4, ih (k - 4) (by omega)]
      congr 1
      omega
theorem rot1_norm (p : Int × Int) : (rot1 p).1 * (rot1 p).1 + (rot1 p).2 * (rot1 p).2 = p.1 * p.1 + p.2 * p.2 := by
  obtain ⟨x, y⟩ := p
  show -y * -y + x * x = x * x + y * y
  rw [Int.neg_mul_neg, Int.add_comm]
theorem rotN_norm (k : Nat) (p : Int × Int) : (rotN k p).1 * (rotN k p).1 + (rotN k p).2 * (rotN k p).2 = p.1 * p.1 + p.2 * p.2 := by
  induction k with
  | zero => rfl
  | succ k ih => show (rot1 _).1 * (rot1 _).1 + _ = _; rw [← ih]; exact rot1_norm _
/-- One is the other, number for number. -/
def RpP (z : Nat × Nat) (p : Int × Int) : Prop := Rp z.1 p.1 ∧ Rp z.2 p.2
structure RpL (l : List (Nat × Nat)) (r : List (Int × Int)) : Prop where
  len : l.length = r.length
  at' : ∀ i, i < r.length → RpP (l.getD i (0, 0)) (r.getD i (0, 0))
theorem RpP.eq {z w : Nat × Nat} {p q : Int × Int} (h : RpP z p) (k : RpP w q) : ((dbl.order z.1 w.1 == some .eq) && (dbl.order z.2 w.2 == some .eq)) = decide (p = q) := by
  rw [eq_ok h.1 k.1, eq_ok h.2 k.2]
  obtain ⟨p1, p2⟩ := p
  obtain ⟨q1, q2⟩ := q
  simp [Prod.mk.injEq]
theorem RpP.rot {z : Nat × Nat} {p : Int × Int} (h : RpP z p) : RpP (Op.negFloat .f64 z.2, z.1) (rot1 p) := ⟨neg_ok h.2, h.1⟩
theorem RpP.mulI {z : Nat × Nat} {p : Int × Int} (h : RpP z p) : ∃ w, cmulI z.1 z.2 = some w ∧ RpP w (rot1 p) := by
  obtain ⟨r, i, e, h1, h2⟩ := mulI_ok h.1 h.2
  exact ⟨(r, i), e, h1, h2⟩
/-- How far: squared. -/
theorem RpP.norm {z : Nat × Nat} {p : Int × Int} (h : RpP z p) : ∃ a b c, dbl.mul z.1 z.1 = some a ∧ dbl.mul z.2 z.2 = some b ∧ dbl.add a b = some c ∧ c = zb (p.1 * p.1 + p.2 * p.2) ∧ (dbl.order c c == some .eq) = true := by
  obtain ⟨h1, h2⟩ := sum_ok h.1.1 h.2.1
  exact ⟨_, _, _, sq_ok h.1, sq_ok h.2, h1, rfl, h2⟩
theorem plc_ok {cols : List Int} (hl : cols.length ≤ 26) (hc : ∀ j, 0 ≤ cols.getD j 0 ∧ cols.getD j 0 ≤ 25) : RpL (plcZ cols) (plcI cols) := by
  refine ⟨by simp [plcZ, plcI], fun i hi => ?_⟩
  simp only [plcI, List.length_map, List.length_range] at hi
  have e1 : (plcZ cols).getD i (0, 0) = (zb (cols.getD i 0), zb (-(i : Int))) := by
    simp [plcZ, List.getD_eq_getElem?_getD, hi]
  have e2 : (plcI cols).getD i (0, 0) = (cols.getD i 0, -(i : Int)) := by
    simp [plcI, List.getD_eq_getElem?_getD, hi]
  rw [e1, e2]
  have := hc i
  exact ⟨Rp.nearest (by omega), Rp.nearest (by omega)⟩
end Go.Proofs.Ytggaimcopbjdiaa.AM

namespace Go.Proofs.Ytggaimcopbjdiaa.AM
theorem and3 (p : Int) : abits .and .i64 p 3 = p % 4 := by
  have h1 : (BitVec.ofInt 64 p &&& BitVec.ofInt 64 3).toNat = (p % 18446744073709551616).toNat % 4 := by
    rw [BitVec.toNat_and, BitVec.toNat_ofInt]
    rw [show (BitVec.ofInt 64 3).toNat = 2 ^ 2 - 1 from rfl, Nat.and_two_pow_sub_one_eq_mod]
    rfl
  show aw .i64 ((BitVec.ofInt 64 p &&& BitVec.ofInt 64 3).toNat : Nat) = _
  rw [h1]
  simp only [aw]
  omega
theorem tmod4 (q : Int) : q.tmod 4 = if 0 ≤ q then q % 4 else -((-q) % 4) := by
  by_cases h : 0 ≤ q
  · rw [if_pos h, Int.tmod_eq_emod_of_nonneg h]
  · rw [if_neg h]
    have e : q = -(-q) := by omega
    conv => lhs; rw [e, Int.neg_tmod]
    rw [Int.tmod_eq_emod_of_nonneg (by omega)]
theorem rem4 (q : Int) : (q.tmod 4 + 4).tmod 4 = q % 4 := by
  have h1 : 0 ≤ q.tmod 4 + 4 := by
    rw [tmod4]
    split <;> omega
  rw [Int.tmod_eq_emod_of_nonneg h1, tmod4]
  split <;> omega
theorem rem4_in (q : Int) : -3 ≤ q.tmod 4 ∧ q.tmod 4 ≤ 3 := by
  rw [tmod4]
  split <;> omega
end Go.Proofs.Ytggaimcopbjdiaa.AM

