/- Labels joined: laws. What an instruction makes of a frame, as the document tells it. -/
import Derived.Test.YtollibkfagjnaaaShapeKitK
set_option linter.unusedVariables false
set_option linter.unusedSimpArgs false
set_option maxRecDepth 10000
namespace Go.Proofs.Ytollibkfagjnaaa.Shape.Kit
open Go.Proofs.Ytollibkfagjnaaa.AM
/-- A label. -/
def U64 (x : Int) : Prop := 0 ≤ x ∧ x < 18446744073709551616
def bv (x : Int) : BitVec 64 := BitVec.ofInt 64 x
theorem orU_bv (a b : Int) : orU a b = ((bv a ||| bv b).toNat : Int) := by
  show (((BitVec.ofInt 64 a ||| BitVec.ofInt 64 b).toNat : Int)) % 18446744073709551616 = _
  have := (bv a ||| bv b).isLt
  unfold bv at *
  omega
theorem bv_nat (v : BitVec 64) : bv (v.toNat : Int) = v := by
  unfold bv
  rw [BitVec.ofInt_natCast, BitVec.ofNat_toNat, BitVec.setWidth_eq]
theorem bv_orU (a b : Int) : bv (orU a b) = bv a ||| bv b := by rw [orU_bv, bv_nat]
theorem orU_U (a b : Int) : U64 (orU a b) := by
  rw [orU_bv]
  have := (bv a ||| bv b).isLt
  exact ⟨by omega, by omega⟩
theorem bv_inj {a b : Int} (ha : U64 a) (hb : U64 b) (h : bv a = bv b) : a = b := by
  unfold bv at h
  have := congrArg BitVec.toNat h
  rw [BitVec.toNat_ofInt, BitVec.toNat_ofInt] at this
  obtain ⟨a1, a2⟩ := ha
  obtain ⟨b1, b2⟩ := hb
  have e1 : a % ((2 : Nat) ^ 64 : Nat) = a := Int.emod_eq_of_lt a1 (by omega)
  have e2 : b % ((2 : Nat) ^ 64 : Nat) = b := Int.emod_eq_of_lt b1 (by omega)
  rw [e1, e2] at this
  omega
theorem bv0 : bv 0 = 0#64 := rfl
theorem orU_eq {a b c d : Int} (h : bv a ||| bv b = bv c ||| bv d) : orU a b = orU c d := by rw [orU_bv, orU_bv, h]
theorem orU_comm (a b : Int) : orU a b = orU b a := orU_eq (BitVec.or_comm ..)
theorem orU_assoc (a b c : Int) : orU (orU a b) c = orU a (orU b c) := by
  apply orU_eq; rw [bv_orU, bv_orU, BitVec.or_assoc]
theorem orU_self2 (a b : Int) : orU (orU a b) b = orU a b := by
  apply orU_eq; rw [bv_orU, BitVec.or_assoc, BitVec.or_self]
theorem orU_zero {a : Int} (h : U64 a) : orU 0 a = a := bv_inj (orU_U _ _) h (by rw [bv_orU, bv0, BitVec.zero_or])
theorem or0_or (a b : Int) : orU (orU 0 a) b = orU a b := by
  apply orU_eq; rw [bv_orU, bv0, BitVec.zero_or]
theorem join2 (a b : Int) : joinU [a, b] = orU a b := or0_or a b
theorem foldl_or (l : List Int) (a : Int) : bv (l.foldl orU a) = l.foldl (fun v x => v ||| bv x) (bv a) := by
  induction l generalizing a with
  | nil => rfl
  | cons x l ih => rw [List.foldl_cons, ih, bv_orU]; rfl
theorem foldl_bv (l : List Int) (v w : BitVec 64) : l.foldl (fun v x => v ||| bv x) (v ||| w) = l.foldl (fun v x => v ||| bv x) v ||| w := by
  induction l generalizing v with
  | nil => rfl
  | cons x l ih =>
    rw [List.foldl_cons, List.foldl_cons, ← ih]
    congr 1
    rw [BitVec.or_assoc, BitVec.or_comm w, ← BitVec.or_assoc]
/-- All of them, with the level. -/
theorem join_lvl {l : List Int} {lvl : Int} (hl : U64 lvl) : orU (joinU l) lvl = l.foldl orU lvl := by
  have hU : U64 (l.foldl orU lvl) := by
    cases l with
    | nil => exact hl
    | cons x l =>
      have : ∀ (l : List Int) (a : Int), U64 a → U64 (l.foldl orU a) := by
        intro l
        induction l with
        | nil => exact fun a h => h
        | cons y l ih => exact fun a _ => ih _ (orU_U _ _)
      exact this _ _ hl
  refine bv_inj (orU_U _ _) hU ?_
  rw [bv_orU, foldl_or]
  unfold joinU
  rw [foldl_or, ← foldl_bv, bv0, BitVec.zero_or]
/-- What is left of a frame, the condition, whether all was within. -/
structure SS where
  st : List Int
  lo : List Int
  cd : Int
  kp : Bool
/-- Within, all of them, one by one. -/
def allIn (lvl : Int) : List Int → List Int → Bool
  | [], _ => true
  | x :: l, r => inU (orU x lvl) (r.getD 0 0) && allIn lvl l r.tail
def stepS (m : Md) (f : Nat) (op A : Int) (xs lo : List Int) (lvl : Int) : SS :=
  let n := xs.length - (effS m f op A).1.toNat
  let rest := xs.take n
  let popped := xs.drop n
  let all := popped.foldl orU lvl
  if op = 32 then ⟨rest ++ [lvl], lo, 0, true⟩ else
  if op = 33 then ⟨rest ++ [orU (lo.getD A.toNat 0) lvl], lo, 0, true⟩ else
  if op = 34 then ⟨rest, lo.set A.toNat all, 0, true⟩ else
  if op = 35 then ⟨rest ++ [orU (m.gs.getD A.toNat 0) lvl], lo, 0, true⟩ else
  if op = 36 then ⟨rest, lo, 0, inU (orU all lvl) (m.gs.getD A.toNat 0)⟩ else
  if op = 37 then ⟨rest ++ [orU all (m.arrays.getD A.toNat (0, 0)).2], lo, 0, true⟩ else
  if op = 38 then ⟨rest, lo, 0, inU (orU all lvl) (m.arrays.getD A.toNat (0, 0)).2⟩ else
  if op = 39 then ⟨rest ++ [all, all], lo, 0, true⟩ else
  if op = 40 then ⟨rest ++ [orU (popped.getD 1 0) lvl, orU (popped.getD 0 0) lvl], lo, 0, true⟩ else
  if op = 41 ∨ op = 42 ∨ op = 43 then ⟨rest, lo, 0, true⟩ else
  if op = 44 then ⟨rest, lo, all, true⟩ else
  if op = 45 then ⟨rest ++ (fnAt m A.toNat).rs.map (fun x => orU x lvl), lo, 0, inU (orU 0 lvl) (fnAt m A.toNat).lvl && allIn lvl popped (fnAt m A.toNat).ps⟩ else
  if op = 46 then ⟨rest, lo, 0, allIn lvl popped (fnAt m f).rs⟩ else
  if op = 47 then ⟨rest, lo, 0, inU (orU all lvl) (m.chans.getD A.toNat 0)⟩ else
  ⟨rest ++ [all], lo, 0, true⟩
end Go.Proofs.Ytollibkfagjnaaa.Shape.Kit
