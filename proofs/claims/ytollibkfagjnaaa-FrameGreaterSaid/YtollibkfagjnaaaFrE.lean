/- The document's Heights. The document's Heights, walked. Rules for queues in a walk. frame.Heights, walked. frame.Effect and both Entries. PUT TOGETHER by merge.py. -/
import Derived.Test.YtollibkfagjnaaaFrH
set_option linter.unusedVariables false
set_option linter.unusedSimpArgs false
set_option maxRecDepth 10000
namespace Go.Proofs.Ytollibkfagjnaaa.Shape.Kit
open Go.Proofs.Ytollibkfagjnaaa.AM
def hs0 (n : Nat) : List Int := 0 :: List.replicate (n - 1) (-1)
def lk0 (n : Nat) : List Bool := List.replicate n false
/-- What Heights answers. -/
inductive HRes (m : Md) (f : Int) : List Int → Int → Int → Int → Prop
  | shape {e g a : Int} (hc : Shape.IsCheck (toM m) e g a) (h : e ≠ 0) : HRes m f [] e g a
  | arg (hk : OkM m) (h : ¬ (0 ≤ f ∧ f < m.fns.length)) : HRes m f [] 1 f 0
  | ok {hs : List Int} {i : Nat} (hk : OkM m) (hf : f = i) (hi : i < m.fns.length) (h : HRun m i (hs0 (fnAt m i).code.length) (lk0 (fnAt m i).code.length) (.ok hs)) : HRes m f hs 0 0 0
  | bad {e : Int} {i a : Nat} (hk : OkM m) (hf : f = i) (hi : i < m.fns.length) (h : HRun m i (hs0 (fnAt m i).code.length) (lk0 (fnAt m i).code.length) (.bad e a)) : HRes m f [] e f a
theorem ok_not {m : Md} {e g a : Int} (hk : OkM m) (hc : Shape.IsCheck (toM m) e g a) (h : e ≠ 0) : False := by
  obtain ⟨f', a', hc'⟩ := hk
  exact h (Shape.isCheck_one hc hc').1
theorem HRes.one {m : Md} {f : Int} {l l' : List Int} {e g a e' g' a' : Int} (h : HRes m f l e g a) (h' : HRes m f l' e' g' a') : l = l' ∧ e = e' ∧ g = g' ∧ a = a' := by
  cases h with
  | shape hc h =>
    cases h' with
    | shape hc' h' => obtain ⟨rfl, rfl, rfl⟩ := Shape.isCheck_one hc hc'; exact ⟨rfl, rfl, rfl, rfl⟩
    | arg hk _ => exact (ok_not hk hc h).elim
    | ok hk _ _ _ => exact (ok_not hk hc h).elim
    | bad hk _ _ _ => exact (ok_not hk hc h).elim
  | arg hk h =>
    cases h' with
    | shape hc' h' => exact (ok_not hk hc' h').elim
    | arg _ _ => exact ⟨rfl, rfl, rfl, rfl⟩
    | ok _ hf hi _ => exact absurd (by omega) h
    | bad _ hf hi _ => exact absurd (by omega) h
  | ok hk hf hi h =>
    cases h' with
    | shape hc' h' => exact (ok_not hk hc' h').elim
    | arg _ h => exact absurd (by omega) h
    | ok _ hf' _ h' =>
      obtain rfl := Int.ofNat.inj (hf.symm.trans hf')
      cases h.one h'
      exact ⟨rfl, rfl, rfl, rfl⟩
    | bad _ hf' _ h' =>
      obtain rfl := Int.ofNat.inj (hf.symm.trans hf')
      cases h.one h'
  | bad hk hf hi h =>
    cases h' with
    | shape hc' h' => exact (ok_not hk hc' h').elim
    | arg _ h => exact absurd (by omega) h
    | ok _ hf' _ h' =>
      obtain rfl := Int.ofNat.inj (hf.symm.trans hf')
      cases h.one h'
    | bad _ hf' _ h' =>
      obtain rfl := Int.ofNat.inj (hf.symm.trans hf')
      cases h.one h'
      exact ⟨rfl, rfl, rfl, rfl⟩
theorem hinv0 {n : Nat} (hn : 0 < n) : HInv n (hs0 n) (lk0 n) := by
  have hg : ∀ b, (hs0 n).getD b 0 = 0 ∨ (hs0 n).getD b 0 = -1 := fun b => by
    cases b with
    | zero => exact .inl rfl
    | succ b =>
      show (List.replicate (n - 1) (-1 : Int)).getD b 0 = 0 ∨ _
      simp only [List.getD_eq_getElem?_getD, List.getElem?_replicate, hs0, List.getElem?_cons_succ]
      split
      · exact .inr rfl
      · exact .inl rfl
  refine ⟨by simp [hs0]; omega, by simp [lk0], fun b => ?_, fun b => ?_, fun b hb => ?_⟩
  · rcases hg b with h | h <;> omega
  · rcases hg b with h | h <;> omega
  · simp only [lk0, List.getD_eq_getElem?_getD, List.getElem?_replicate] at hb
    split at hb <;> simp at hb
theorem nx_nat {m : Md} {i a : Nat} (ha : a < (fnAt m i).code.length) : Gr.nextI (fnAt m i).code ((a : Nat) : Int) = natH (nxH m i a) ∧ ∀ b, b ∈ nxH m i a → b ≤ (fnAt m i).code.length := by
  have key : ∀ c, c ∈ Gr.nextL (fnAt m i).code a → 0 ≤ c ∧ c ≤ (fnAt m i).code.length := fun c hc => by
    unfold Gr.nextL at hc
    dsimp only at hc
    repeat' (split at hc)
    all_goals simp only [List.mem_cons, List.not_mem_nil, or_false] at hc
    all_goals omega
  refine ⟨?_, fun b hb => ?_⟩
  · rw [Gr.nextI_nat ha]
    unfold natH nxH
    rw [List.map_map]
    refine (List.map_id' _).symm.trans (List.map_congr_left fun c hc => ?_)
    have := key c hc
    show c = ((c.toNat : Nat) : Int)
    omega
  · obtain ⟨c, hc, rfl⟩ := List.mem_map.1 hb
    have := key c hc
    omega
theorem eff_small {m : Md} (hk : OkM m) {i a : Nat} (hi : i < m.fns.length) (ha : a < (fnAt m i).code.length) : 0 ≤ (effH m i a).1 ∧ (effH m i a).1 ≤ 8 ∧ 0 ≤ (effH m i a).2 ∧ (effH m i a).2 ≤ 4 :=
  effS_small hk hi _ _ (op_ok hk hi ha rfl).2
end Go.Proofs.Ytollibkfagjnaaa.Shape.Kit

namespace Go.Proofs.Ytollibkfagjnaaa.Shape.Kit
open Go.Proofs.Ytollibkfagjnaaa.AM
def hR (hs : List Int) (lk : List Bool) : PH := [.cel [i64 0, i64 0, i64 0], .vec 1 hs.length (rowI .i64 hs) true, .vec 1 lk.length (rowB lk) true]
end Go.Proofs.Ytollibkfagjnaaa.Shape.Kit

namespace Go.Proofs.Ytollibkfagjnaaa.AM
section
variable {V : Type → Type} [Vec V] {E : Env V} {F F' F0 : Nat → Prop} {ρ ρ' ρ0 : PR} {H H' H0 : AH V} {hp hp' hp0 : PH} {ds ds' : List Nat} {T L : List PV} {Ta La : List Value} {inR : Bool} {p : List Nat} {a b c : ACode} {R : AE → List PV → PH → Prop} {st : PS} {dr : Bool} {ops : List AOper} {l0 : Nat} {Q : List PV → PH → Prop}
end
end Go.Proofs.Ytollibkfagjnaaa.AM
namespace Go.Proofs.Ytollibkfagjnaaa.Shape.Kit
open Go.Proofs.Ytollibkfagjnaaa.AM
end Go.Proofs.Ytollibkfagjnaaa.Shape.Kit

namespace Go.Proofs.Ytollibkfagjnaaa.Shape.Kit
open Go.Proofs.Ytollibkfagjnaaa.AM
def hH (hs : List Int) (x : Option (List Int)) (td : List Int) : PH := [.cel [i64 0, i64 0, i64 0], .vec 1 hs.length (rowI .i64 hs) true, qB x td]
end Go.Proofs.Ytollibkfagjnaaa.Shape.Kit

namespace Go.Proofs.Ytollibkfagjnaaa.Shape.Kit
open Go.Proofs.Ytollibkfagjnaaa.AM
theorem row_grow {l : List Int} {x : Int} {i : Nat} (hi : i < l.length + 1) : (if i < l.length then rowI .u64 l i else ([PV.s (.int .u64 x)].drop ((i - l.length) * 1)).take 1) = rowI .u64 (l ++ [x]) i := row1_push (en := fun b => .s (.int .u64 b)) (d := 0) (xs := l) (x := x) hi
end Go.Proofs.Ytollibkfagjnaaa.Shape.Kit

