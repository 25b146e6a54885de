import Derived.Test.YtggaimcopbjdiaaAMb
import Derived.KernelRfl
import Derived.Test.YtggaimcopbjdiaaPN
set_option linter.unusedVariables false
set_option linter.unusedSimpArgs false
set_option maxRecDepth 100000
namespace Go.Proofs.Ytggaimcopbjdiaa.AM
def zb (n : Int) : Nat := FloatKind.f64.nearest n
def zneg : Nat := 9223372036854775808
def zone : Nat := 4607182418800017408
def Rp (x : Nat) (n : Int) : Prop := (-25 ≤ n ∧ n ≤ 25) ∧ (x = zb n ∨ (n = 0 ∧ x = zneg))
def isRp (x : Nat) (n : Int) : Bool := Nat.beq x (zb n) || (decide (n = 0) && Nat.beq x zneg)
def reps : List (Nat × Int) := (zneg, 0) :: (List.range 51).map fun (k : Nat) => (zb ((k : Int) - 25), (k : Int) - 25)
theorem Rp.mem {x : Nat} {n : Int} (h : Rp x n) : (x, n) ∈ reps := by
 obtain ⟨⟨h1, h2⟩, rfl | ⟨rfl, rfl⟩⟩ := h
 ·refine List.mem_cons_of_mem _ (List.mem_map.2 ⟨(n + 25).toNat, List.mem_range.2 (by omega), ?_⟩)
  rw [show (((n + 25).toNat : Nat) : Int) - 25 = n by omega]
 ·exact List.mem_cons_self ..
theorem Rp.of {x : Nat} {n : Int} (h1 : -25 ≤ n ∧ n ≤ 25) (h : isRp x n = true) : Rp x n := by
 refine ⟨h1, ?_⟩
 unfold isRp at h
 simp only [Bool.or_eq_true, Bool.and_eq_true, decide_eq_true_eq, Nat.beq_eq] at h
 exact h
theorem Rp.nearest {n : Int} (h1 : -25 ≤ n ∧ n ≤ 25) : Rp (zb n) n := ⟨h1, .inl rfl⟩
abbrev dbl : Ieee.Format := Ieee.double
def isZ (z : Nat) : Bool := Nat.beq z 0 || Nat.beq z zneg
theorem m0_all : (reps.all fun p => match dbl.mul p.1 0 with | some z => isZ z | none => false) = true := by kernel_rfl
theorem m1_all : (reps.all fun p => match dbl.mul p.1 zone with | some z => Nat.beq z p.1 | none => false) = true := by kernel_rfl
theorem m0_ok {x : Nat} {n : Int} (hx : Rp x n) : ∃ z, dbl.mul x 0 = some z ∧ z ∈ [0, zneg] := by
 have h := List.all_eq_true.1 m0_all _ hx.mem
 cases hc : dbl.mul x 0 with
 | none => simp only [hc] at h; cases h
 | some z =>
   simp only [hc, isZ, Bool.or_eq_true, Nat.beq_eq] at h
   refine ⟨z, rfl, ?_⟩
   rcases h with rfl | rfl
   ·exact List.mem_cons_self ..
   ·exact List.mem_cons_of_mem _ (List.mem_cons_self ..)
theorem m1_ok {x : Nat} {n : Int} (hx : Rp x n) : dbl.mul x zone = some x := by
 have h := List.all_eq_true.1 m1_all _ hx.mem
 cases hc : dbl.mul x zone with
 | none => simp only [hc] at h; cases h
 | some z => simp only [hc, Nat.beq_eq] at h; rw [h]
theorem eq_all : (reps.all fun p => reps.all fun q => (dbl.order p.1 q.1 == some .eq) == decide (p.2 = q.2)) = true := by kernel_rfl
theorem eq_ok {x y : Nat} {n m : Int} (hx : Rp x n) (hy : Rp y m) : (dbl.order x y == some .eq) = decide (n = m) := by
 have h := List.all_eq_true.1 (List.all_eq_true.1 eq_all _ hx.mem) _ hy.mem
 exact eq_of_beq h
theorem sq_all : (reps.all fun p => match dbl.mul p.1 p.1 with | some r => Nat.beq r (zb (p.2 * p.2)) | none => false) = true := by kernel_rfl
theorem sq_ok {x : Nat} {n : Int} (hx : Rp x n) : dbl.mul x x = some (zb (n * n)) := by
 have h := List.all_eq_true.1 sq_all _ hx.mem
 dsimp only at h
 cases hc : dbl.mul x x with
 | none => rw [hc] at h; cases h
 | some r => rw [hc] at h; simp only [Nat.beq_eq] at h; rw [h]
theorem sum_all : ((List.range 26).all fun (a : Nat) => (List.range 26).all fun (b : Nat) => match dbl.add (zb ((a : Int) * a)) (zb ((b : Int) * b)) with | some r => Nat.beq r (zb ((a : Int) * a + (b : Int) * b)) && (dbl.order r r == some .eq) | none => false) = true := by kernel_rfl
theorem sum_ok {n m : Int} (h1 : -25 ≤ n ∧ n ≤ 25) (h2 : -25 ≤ m ∧ m ≤ 25) : dbl.add (zb (n * n)) (zb (m * m)) = some (zb (n * n + m * m)) ∧ (dbl.order (zb (n * n + m * m)) (zb (n * n + m * m)) == some .eq) = true := by
 have e1 : n * n = (n.natAbs : Int) * n.natAbs := (Int.natAbs_mul_self' n).symm
 have e2 : m * m = (m.natAbs : Int) * m.natAbs := (Int.natAbs_mul_self' m).symm
 have h := List.all_eq_true.1 (List.all_eq_true.1 sum_all n.natAbs (List.mem_range.2 (by omega))) m.natAbs (List.mem_range.2 (by omega))
 rw [e1, e2]
 cases hc : dbl.add (zb ((n.natAbs : Int) * n.natAbs)) (zb ((m.natAbs : Int) * m.natAbs)) with
 | none => simp only [hc] at h; cases h
 | some r =>
   simp only [hc, Bool.and_eq_true, Nat.beq_eq] at h
   obtain ⟨rfl, h⟩ := h
   exact ⟨rfl, h⟩
end Go.Proofs.Ytggaimcopbjdiaa.AM
namespace Go.Proofs.Ytggaimcopbjdiaa.AM
theorem pr_bind {α β : Type} (P : Program) (m : Sem α) (f : α → Sem β) : pureRun P (m >>= f) = (pureRun P m).bind fun a => pureRun P (f a) := by
 induction m with
 | pure a => rfl
 | program k ih => exact ih P
 | mark s k ih => exact ih
 | _ => rfl
theorem pr_pure {α : Type} (P : Program) (a : α) : pureRun P (pure a : Sem α) = some a := rfl
theorem aflat_of {P : Program} {o : FOp} {vs : List Value} {v : Value} (h1 : vs.all flat = true) (h2 : pureRun P (flatSem o vs) = some v) (h3 : flat v = true) : aflat P o vs = some v := by
 unfold aflat
 rw [if_pos h1, h2]
 show (if flat v = true then some v else none) = some v
 rw [if_pos h3]
theorem pr_arith {P : Program} {op : BinOp} {x y r : Nat} (h : (match op with | .add => dbl.add x y | .sub => dbl.sub x y | .mul => dbl.mul x y | _ => none) = some r) (ho : op = .add ∨ op = .sub ∨ op = .mul) : pureRun P (Op.floatArith op .f64 x y) = some (.float .f64 r) := by
 unfold Op.floatArith
 rcases ho with rfl | rfl | rfl <;>
 ·simp only [pr_bind, pr_pure, Option.bind_some]
  dsimp only at h
  rw [show FloatKind.f64.format = dbl from rfl, h]
  rfl
theorem pr_carith {P : Program} {op : BinOp} {x y r : Nat} (h : (match op with | .add => dbl.add x y | .sub => dbl.sub x y | .mul => dbl.mul x y | _ => none) = some r) (ho : op = .add ∨ op = .sub ∨ op = .mul) : pureRun P (Op.Complex.arith op .f64 x y) = some r := by
 unfold Op.Complex.arith
 rw [pr_bind, pr_arith h ho]
 rfl
theorem pr_ccmp {P : Program} {op : BinOp} {x y : Nat} (ho : op = .eql) : pureRun P (Op.Complex.cmp op .f64 x y) = some (dbl.order x y == some .eq) := by
 subst ho
 rfl
theorem flat_arith {P : Program} {op : BinOp} {t : TypeId} {xo yo : Operand} {x y r : Nat} (h : (match op with | .add => dbl.add x y | .sub => dbl.sub x y | .mul => dbl.mul x y | _ => none) = some r) (ho : op = .add ∨ op = .sub ∨ op = .mul) : aflat P (.bin op t xo yo) [.float .f64 x, .float .f64 y] = some (.float .f64 r) := by
 refine aflat_of rfl ?_ rfl
 show pureRun P (flatSem (.bin op t xo yo) [.float .f64 x, .float .f64 y]) = some (.float .f64 r)
 have := pr_arith (P := P) h ho
 rcases ho with rfl | rfl | rfl <;> exact this
theorem flat_ineg {P : Program} {a : Int} (h1 : -9223372036854775807 ≤ a) (h2 : a ≤ 9223372036854775807) : aflat P (.un .neg) [.int .i64 a] = some (.int .i64 (-a)) := by
 refine aflat_of rfl ?_ rfl
 show some (Value.int .i64 (IntKind.i64.wrap (0 - a))) = _
 have : IntKind.i64.wrap (0 - a) = -a := by
  rw [← aw_eq]
  rw [aw64 (by omega) (by omega)]
  omega
 rw [this]
theorem flat_cplx {P : Program} {ts : Array TypeId} {t : TypeId} {x y : Nat} : aflat P (.cplx ts t) [.float .f64 x, .float .f64 y] = some (.complex .f64 x y) := rfl
theorem flat_re {P : Program} {ts : Array TypeId} {t : TypeId} {x y : Nat} : aflat P (.re ts t) [.complex .f64 x y] = some (.float .f64 x) := rfl
theorem flat_im {P : Program} {ts : Array TypeId} {t : TypeId} {x y : Nat} : aflat P (.im ts t) [.complex .f64 x y] = some (.float .f64 y) := rfl
theorem flat_conv {P : Program} {s d : TypeId} (h1 : P.underlying s = some (.int .i64)) (h2 : P.underlying d = some (.float .f64)) (n : Int) : aflat P (.conv s d) [.int .i64 n] = some (.float .f64 (zb n)) := by
 have hu : ∀ (t : TypeId) (D : TypeDesc), P.underlying t = some D → pureRun P (underlying t) = some D := fun t D h => by
  unfold underlying
  rw [pr_bind]
  show (some P).bind _ = _
  simp only [Option.bind_some, h]
  rfl
 refine aflat_of rfl ?_ rfl
 show pureRun P (flatSem (.conv s d) [.int .i64 n]) = some (.float .f64 (zb n))
 show pureRun P (convert s d (.int .i64 n)) = _
 unfold convert
 simp only [pr_bind, hu _ _ h1, hu _ _ h2, Option.bind_some]
 rfl
end Go.Proofs.Ytggaimcopbjdiaa.AM
namespace Go.Proofs.Ytggaimcopbjdiaa.AM
def incAt (l : List Int) (a : Nat) : List Int := l.set a (l.getD a 0 + 1)
theorem incAt_len (l : List Int) (a : Nat) : (incAt l a).length = l.length := by unfold incAt; rw [List.length_set]
theorem incAt_at {l : List Int} {a j : Nat} (ha : a < l.length) : (incAt l a).getD j 0 = l.getD j 0 + (if j = a then 1 else 0) := by
 unfold incAt
 by_cases e : a = j
 ·subst e
  rw [if_pos rfl]
  simp only [List.getD_eq_getElem?_getD, List.getElem?_set_self ha, Option.getD_some]
 ·rw [if_neg (fun h => e h.symm)]
  simp only [List.getD_eq_getElem?_getD, List.getElem?_set_ne e]
  omega
def colB (os : List Nat) (l : List Int) : List Int := os.foldl incAt l
theorem colB_len : ∀ (os : List Nat) (l : List Int), (colB os l).length = l.length
 | [], l => rfl
 | a :: os, l => by
   have := colB_len os (incAt l a)
   rw [incAt_len] at this
   exact this
theorem colB_at : ∀ (os : List Nat) (l : List Int), os.Nodup → (∀ a, a ∈ os → a < l.length) → ∀ j, l.getD j 0 ≤ (colB os l).getD j 0 ∧ (colB os l).getD j 0 ≤ l.getD j 0 + (if j ∈ os then 1 else 0)
 | [], l, _, _, j => ⟨Int.le_refl _, by simp [colB]⟩
 | a :: os, l, hn, hl, j => by
   obtain ⟨n1, n2⟩ := List.nodup_cons.1 hn
   have ih := colB_at os (incAt l a) n2 (fun b hb => by rw [incAt_len]; exact hl b (List.mem_cons_of_mem _ hb)) j
   rw [incAt_at (hl a (List.mem_cons_self ..))] at ih
   show _ ≤ (colB os (incAt l a)).getD j 0 ∧ (colB os (incAt l a)).getD j 0 ≤ _
   by_cases e : j = a
   ·subst e
    rw [if_pos rfl, if_neg n1] at ih
    rw [if_pos (List.mem_cons_self ..)]
    omega
   ·rw [if_neg e] at ih
    by_cases m : j ∈ os
    ·rw [if_pos m] at ih
     rw [if_pos (List.mem_cons_of_mem _ m)]
     omega
    ·rw [if_neg m] at ih
     rw [if_neg (by rw [List.mem_cons]; exact fun h => h.elim e m)]
     omega
def colN (os : Nat → List Nat) (n : Nat) : Nat → List Int
 | 0 => List.replicate n 0
 | k + 1 => colB (os k) (colN os n k)
theorem colN_len (os : Nat → List Nat) (n : Nat) : ∀ k, (colN os n k).length = n
 | 0 => List.length_replicate
 | k + 1 => by unfold colN; rw [colB_len]; exact colN_len os n k
theorem colN_at {os : Nat → List Nat} {n : Nat} (hn : ∀ b, (os b).Nodup) (hl : ∀ b a, a ∈ os b → a < n) : ∀ k j, 0 ≤ (colN os n k).getD j 0 ∧ (colN os n k).getD j 0 ≤ k
 | 0, j => by
   unfold colN
   simp only [List.getD_eq_getElem?_getD, List.getElem?_replicate]
   split <;> simp
 | k + 1, j => by
   obtain ⟨h1, h2⟩ := colN_at hn hl k j
   obtain ⟨q1, q2⟩ := colB_at (os k) (colN os n k) (hn k) (fun a ha => by rw [colN_len]; exact hl k a ha) j
   unfold colN
   have : (if j ∈ os k then (1 : Int) else 0) ≤ 1 := by split <;> omega
   omega
def plcI (cols : List Int) : List (Int × Int) := (List.range cols.length).map fun (a : Nat) => (cols.getD a 0, -(a : Int))
def RpP (z : Nat × Nat) (p : Int × Int) : Prop := Rp z.1 p.1 ∧ Rp z.2 p.2
structure RpL (l : List (Nat × Nat)) (r : List (Int × Int)) : Prop where
 len : l.length = r.length
 at' : ∀ i, i < r.length → RpP (l.getD i (0, 0)) (r.getD i (0, 0))
theorem RpP.eq {z w : Nat × Nat} {p q : Int × Int} (h : RpP z p) (k : RpP w q) : ((dbl.order z.1 w.1 == some .eq) && (dbl.order z.2 w.2 == some .eq)) = decide (p = q) := by
 rw [eq_ok h.1 k.1, eq_ok h.2 k.2]
 obtain ⟨p1, p2⟩ := p
 obtain ⟨q1, q2⟩ := q
 simp [Prod.mk.injEq]
theorem RpP.norm {z : Nat × Nat} {p : Int × Int} (h : RpP z p) : ∃ a b c, dbl.mul z.1 z.1 = some a ∧ dbl.mul z.2 z.2 = some b ∧ dbl.add a b = some c ∧ c = zb (p.1 * p.1 + p.2 * p.2) ∧ (dbl.order c c == some .eq) = true := by
 obtain ⟨h1, h2⟩ := sum_ok h.1.1 h.2.1
 exact ⟨_, _, _, sq_ok h.1, sq_ok h.2, h1, rfl, h2⟩
end Go.Proofs.Ytggaimcopbjdiaa.AM
namespace Go.Proofs.Ytggaimcopbjdiaa.AM
end Go.Proofs.Ytggaimcopbjdiaa.AM
namespace Go.Proofs.Ytggaimcopbjdiaa.AM
theorem dp_all : ((List.range 21).all fun (a : Nat) => (List.range 21).all fun (b : Nat) => match dbl.sub (zb (a : Int)) (zb (b : Int)) with | some r => Nat.beq r (zb ((a : Int) - b)) | none => false) = true := by kernel_rfl
theorem dn_all : ((List.range 21).all fun (a : Nat) => (List.range 21).all fun (b : Nat) => match dbl.sub (zb (-(a : Int))) (zb (-(b : Int))) with | some r => Nat.beq r (zb ((b : Int) - a)) | none => false) = true := by kernel_rfl
theorem su_all : ((List.range 41).all fun (a : Nat) => (List.range 21).all fun (b : Nat) => match dbl.add (zb (a : Int)) (zb (b : Int)) with | some r => Nat.beq r (zb ((a : Int) + b)) | none => false) = true := by kernel_rfl
theorem pick_all {n m : Nat} {g : Nat → Nat → Option Nat} {h : Nat → Nat → Nat} (ha : ((List.range n).all fun (a : Nat) => (List.range m).all fun (b : Nat) => match g a b with | some r => Nat.beq r (h a b) | none => false) = true) {a b : Nat} (h1 : a < n) (h2 : b < m) : g a b = some (h a b) := by
 have q := List.all_eq_true.1 (List.all_eq_true.1 ha a (List.mem_range.2 h1)) b (List.mem_range.2 h2)
 (try dsimp only at q)
 cases hc : g a b with
 | none => rw [hc] at q; cases q
 | some r => rw [hc] at q; rw [Nat.eq_of_beq_eq_true q]
theorem dp_ok {a b : Int} (h1 : 0 ≤ a ∧ a ≤ 20) (h2 : 0 ≤ b ∧ b ≤ 20) : dbl.sub (zb a) (zb b) = some (zb (a - b)) := by
 have := pick_all dp_all (a := a.toNat) (b := b.toNat) (by omega) (by omega)
 rw [show ((a.toNat : Nat) : Int) = a by omega, show ((b.toNat : Nat) : Int) = b by omega] at this
 exact this
theorem dn_ok {a b : Int} (h1 : -20 ≤ a ∧ a ≤ 0) (h2 : -20 ≤ b ∧ b ≤ 0) : dbl.sub (zb a) (zb b) = some (zb (a - b)) := by
 have := pick_all dn_all (a := (-a).toNat) (b := (-b).toNat) (by omega) (by omega)
 rw [show (((-a).toNat : Nat) : Int) = -a by omega, show (((-b).toNat : Nat) : Int) = -b by omega, Int.neg_neg, Int.neg_neg, show -b - -a = a - b by omega] at this
 exact this
theorem su_ok {a b : Int} (h1 : 0 ≤ a ∧ a ≤ 40) (h2 : 0 ≤ b ∧ b ≤ 20) : dbl.add (zb a) (zb b) = some (zb (a + b)) := by
 have := pick_all su_all (a := a.toNat) (b := b.toNat) (by omega) (by omega)
 rw [show ((a.toNat : Nat) : Int) = a by omega, show ((b.toNat : Nat) : Int) = b by omega] at this
 exact this
theorem ab_all : ((List.range 41).all fun (a : Nat) => decide (abits .andNot .u64 (zb ((a : Int) - 20)) 9223372036854775808 = (zb (((a : Int) - 20).natAbs : Nat) : Nat))) = true := by kernel_rfl
theorem ab_ok {a : Int} (h : -20 ≤ a ∧ a ≤ 20) : abits .andNot .u64 (zb a) 9223372036854775808 = (zb (a.natAbs : Nat) : Nat) := by
 have q := List.all_eq_true.1 ab_all (a + 20).toNat (List.mem_range.2 (by omega))
 (try dsimp only at q)
 rw [show (((a + 20).toNat : Nat) : Int) - 20 = a by omega] at q
 exact of_decide_eq_true q
theorem ci_all : ((List.range 61).all fun (a : Nat) => match (FloatKind.f64.decode (zb (a : Int))).toInt .zero with | some r => decide (r = (a : Int)) | none => false) = true := by kernel_rfl
theorem ci_ok {a : Int} (h : 0 ≤ a ∧ a ≤ 60) : (FloatKind.f64.decode (zb a)).toInt .zero = some a := by
 have q := List.all_eq_true.1 ci_all a.toNat (List.mem_range.2 (by omega))
 (try dsimp only at q)
 rw [show ((a.toNat : Nat) : Int) = a by omega] at q
 cases hc : (FloatKind.f64.decode (zb a)).toInt .zero with
 | none => rw [hc] at q; cases q
 | some r => rw [hc] at q; rw [of_decide_eq_true q]
theorem flat_fi {P : Program} {s d : TypeId} (h1 : P.underlying s = some (.float .f64)) (h2 : P.underlying d = some (.int .i64)) {n : Int} (h : 0 ≤ n ∧ n ≤ 60) : aflat P (.conv s d) [.float .f64 (zb n)] = some (.int .i64 n) := by
 have hu : ∀ (t : TypeId) (D : TypeDesc), P.underlying t = some D → pureRun P (underlying t) = some D := fun t D h => by
  unfold underlying
  rw [pr_bind]
  show (some P).bind _ = _
  simp only [Option.bind_some, h]
  rfl
 refine aflat_of rfl ?_ rfl
 show pureRun P (flatSem (.conv s d) [.float .f64 (zb n)]) = some (.int .i64 n)
 show pureRun P (convert s d (.float .f64 (zb n))) = _
 unfold convert
 simp only [pr_bind, hu _ _ h1, hu _ _ h2, Option.bind_some]
 show pureRun P (Conv.floatToInt .f64 (zb n) .i64) = _
 unfold Conv.floatToInt
 dsimp only
 rw [ci_ok h]
 dsimp only
 rw [if_pos (show IntKind.i64.min ≤ n ∧ n ≤ IntKind.i64.max by
  show (-9223372036854775808 : Int) ≤ n ∧ n ≤ 9223372036854775807
  omega)]
 rfl
theorem flat_xt {P : Program} {g : FuncId} {e : Array Value → Sem Value} (he : (P.funcs[g]?).bind Extern.find = some e) {vs : List Value} {v : Value} (h1 : vs.all flat = true) (h2 : pureRun P (e vs.toArray) = some v) (h3 : flat v = true) : aflat P (.xt g) vs = some v := by
 refine aflat_of h1 ?_ h3
 cases hf : P.funcs[g]? with
 | none => rw [hf] at he; cases he
 | some fn =>
   rw [hf] at he
   have he' : Extern.find fn = some e := he
   show pureRun P (flatSem (.xt g) vs) = some v
   unfold flatSem
   rw [pr_bind]
   show (some P).bind _ = _
   simp only [Option.bind_some, hf, he']
   exact h2
theorem flat_csub {P : Program} {t : TypeId} {xo yo : Operand} {x y u v r i : Nat} (h1 : dbl.sub x u = some r) (h2 : dbl.sub y v = some i) : aflat P (.bin .sub t xo yo) [.complex .f64 x y, .complex .f64 u v] = some (.complex .f64 r i) := by
 have hm : pureRun P (Op.complexOp .sub .f64 x y u v) = some (.complex .f64 r i) := by
  unfold Op.complexOp
  dsimp only
  simp only [pr_bind, pr_pure]
  rw [pr_carith (op := .sub) h1 (.inr (.inl rfl)), Option.bind_some, pr_carith (op := .sub) h2 (.inr (.inl rfl)), Option.bind_some]
 refine aflat_of rfl ?_ rfl
 show pureRun P (flatSem (.bin .sub t xo yo) [.complex .f64 x y, .complex .f64 u v]) = some (.complex .f64 r i)
 show pureRun P (eqGuard .sub t xo yo _ _ >>= fun _ => binOp .sub t _ _) = _
 rw [pr_bind, show pureRun P (eqGuard .sub t xo yo (.complex .f64 x y) (.complex .f64 u v)) = some () from rfl, Option.bind_some]
 exact hm
section
variable {V : Type → Type} [Vec V] {E : Env V} {T : List PV} {p : List Nat} {st : PS} {dr : Bool} {ops : List AOper} {l0 : Nat} {Q : List PV → PH → Prop}
theorem prg_xt {g : FuncId} {xs : List Src} {gd : Option (Src × Bool)} {lo : Nat} {vs : List PV} {us : List Value} {v : Value} (hx : pevs (psev T st.L) xs = some vs) (hu : mapOpt toV vs = some us) (hw : pwanted T st.L gd = some true) (hv : aflat E.P (.xt g) us = some v)
  (h : PRg E p dr T ops l0 ⟨.s v :: st.L, false :: st.O, st.hp, st.md, st.cnt + 1⟩ Q) : PRg E p dr T (⟨.xt g xs, gd, lo⟩ :: ops) l0 st Q := by
 intro F0 ρ0 hp0 H0 F ρ H ds Ta La sn hr hd
 have hev := sev_ok (hd.T.mono hd.fle hd.rle) hd.L
 obtain ⟨ws, h1, h2⟩ := evs_ok hev hx
 have key : ∀ {vs : List PV} {us ws : List Value}, mapOpt toV vs = some us → PRels F ρ H vs ws → ws = us := by
  intro vs
  induction vs with
  | nil =>
    intro us ws h hr
    cases h
    exact List.eq_nil_of_length_eq_zero (by rw [← hr.len]; rfl)
  | cons c cs ih =>
    intro us ws h hr
    cases ws with
    | nil => have := hr.len; simp at this
    | cons w ws =>
      simp only [mapOpt] at h
      split at h
      ·next y e =>
       split at h
       ·next ys e' =>
        cases h
        rw [toV_ok e (hr.at' 0 c w rfl rfl), ih e' (ws := ws) ⟨by have := hr.len; simpa using this, fun j c u q1 q2 => hr.at' (j + 1) c u (by simpa using q1) (by simpa using q2)⟩]
       ·cases h
      ·cases h
 have hws := key hu h2
 subst hws
 refine prg_does hr hd (wanted_ok hev hw) (does_op v H ?_ ⟨F, ρ, _, st.hp, .refl, fun _ _ h => h, hr, .fr (.s _), false, st.md, fun _ h => h, (fun h => nomatch h), fun _ _ _ _ _ _ _ _ => rfl, fun _ _ _ _ h => h, (fun _ => rfl), h⟩)
 simp only [aexec, Go.Proofs.Ytggaimcopbjdiaa.AM.xs, h1, hv, withH]
end
end Go.Proofs.Ytggaimcopbjdiaa.AM
