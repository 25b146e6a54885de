/- The program's step of a frame. -/
import Derived.Test.YtollibkfagjnaaaShapeKitM
set_option linter.unusedVariables false
set_option linter.unusedSimpArgs false
set_option maxRecDepth 10000
namespace Go.Proofs.Ytollibkfagjnaaa.Shape.Kit
open Go.Proofs.Ytollibkfagjnaaa.AM
/-- How large functions of code without a fault are. -/
theorem ok_size {m : Md} (h : OkM m) {i : Nat} (hi : i < m.fns.length) : (fnAt m i).ps.length ≤ 8 ∧ (fnAt m i).rs.length ≤ 4 ∧ 0 ≤ (fnAt m i).stk ∧ (fnAt m i).stk ≤ 64 ∧ (fnAt m i).code.length ≤ 2048 ∧ 0 < (fnAt m i).code.length ∧ 0 ≤ (fnAt m i).loc ∧ (fnAt m i).loc ≤ 32 := by
  obtain ⟨f', a', hc⟩ := h
  have hl : (toM m).fns.length = m.fns.length := by simp [toM]
  have hg := (good_all hc i (by omega)).1
  rw [fnOf_toM hi] at hg
  unfold Shape.headSpec toF at hg
  simp only at hg
  split at hg
  · cases hg
  · split at hg
    · cases hg
    · split at hg
      · cases hg
      · omega
/-- What an instruction of code without a fault names is there. -/
theorem arg_ok {m : Md} (h : OkM m) {i j : Nat} (hi : i < m.fns.length) (hj : j < (fnAt m i).code.length) {op A : Int} (hx : (fnAt m i).code.getD j (0, 0) = (op, A)) :
    (op = 33 ∨ op = 34 → 0 ≤ A ∧ A < Shape.locSpec (toM m) i) ∧ (op = 35 ∨ op = 36 → 0 ≤ A ∧ A < m.gs.length) ∧ (op = 37 ∨ op = 38 → 0 ≤ A ∧ A < m.arrays.length) ∧ (op = 47 → 0 ≤ A ∧ A < m.chans.length) ∧ (op = 43 ∨ op = 44 → 0 ≤ A ∧ A < (fnAt m i).code.length) := by
  have hh := h
  obtain ⟨f', a', hc⟩ := h
  have hl : (toM m).fns.length = m.fns.length := by simp [toM]
  have hg := good_all hc i (by omega)
  have he := hg.2 j (by rw [fnOf_toM hi]; exact hj)
  have hin : Shape.insAt (toM m) i j = (op, A) := by
    unfold Shape.insAt
    rw [fnOf_toM hi]; exact hx
  unfold Shape.errAt at he
  rw [hin] at he
  have h0 : Shape.instrSpec (toM m) i op A = 0 := by
    split at he
    · cases he
    · exact he
  unfold Shape.instrSpec at h0
  rw [hl, if_neg (by omega)] at h0
  split at h0
  · cases h0
  · next h2 =>
    split at h0
    · cases h0
    · next h3 =>
      have hlen : (Shape.fnOf (toM m) (i : Int)).code.length = (fnAt m i).code.length := by rw [fnOf_toM hi]; rfl
      have hloc : 0 ≤ Shape.locSpec (toM m) i := by
        have hz := ok_size hh hi
        unfold Shape.locSpec
        rw [fnOf_toM hi, hl]
        unfold toF
        simp only
        split <;> omega
      refine ⟨fun e => ?_, fun e => ?_, fun e => ?_, fun e => ?_, fun e => ?_⟩
      · have : Shape.roomSpec (toM m) i op = Shape.locSpec (toM m) i := by
          unfold Shape.roomSpec; rw [if_neg (by omega), if_neg (by omega), if_pos e]
        omega
      · have : Shape.roomSpec (toM m) i op = (m.gs.length : Int) := by
          unfold Shape.roomSpec; rw [if_neg (by omega), if_neg (by omega), if_neg (by omega), if_pos e]; rfl
        omega
      · have : Shape.roomSpec (toM m) i op = (m.arrays.length : Int) := by
          unfold Shape.roomSpec; rw [if_neg (by omega), if_neg (by omega), if_neg (by omega), if_neg (by omega), if_pos e]; rfl
        omega
      · have : Shape.roomSpec (toM m) i op = (m.chans.length : Int) := by
          unfold Shape.roomSpec; subst e; simp; rfl
        omega
      · have : Shape.roomSpec (toM m) i op = ((fnAt m i).code.length : Int) := by
          unfold Shape.roomSpec; rw [if_neg (by omega), if_neg (by omega), if_neg (by omega), if_neg (by omega), if_neg (by omega), if_neg (by omega), if_pos e, hlen]
        omega
theorem effS_small {m : Md} (h : OkM m) {f : Nat} (hf : f < m.fns.length) (op A : Int) (hA : op = 45 → 0 ≤ A ∧ A < m.fns.length) : 0 ≤ (effS m f op A).1 ∧ (effS m f op A).1 ≤ 8 ∧ 0 ≤ (effS m f op A).2 ∧ (effS m f op A).2 ≤ 4 := by
  have h1 := ok_size h hf
  by_cases h45 : op = 45
  · have h2 := ok_size h (i := A.toNat) (by have := hA h45; omega)
    subst h45
    simp [effS]
    omega
  · unfold effS
    repeat' split
    all_goals first | (exfalso; omega) | (simp only; omega)
/-- A copy of one's own. -/
theorem cloneO_ok (n k : Nat) (xs : List Int) (hx : xs.length = n) (hn : n < 17592186044415) : PFun E 55 [.frz 1 n k (rowI .u64 (xs ++ [7171]))] (fun v hp => v = .vec 1 0 n ∧ hp = [.vec 1 n (rowI .u64 xs) false]) := by
  refine p_fnw ?_
  show PTri E false _ _ [.frz 1 n k (rowI .u64 (xs ++ [7171])), .junk, .junk] _ _
  refine s_run ?_
  refine s_ass (s_reg ?_)
  refine prg_isnil rfl rfl fun t ht => ?_
  refine g_end ?_
  refine s_cond (fun h => ?_) (fun h => ?_)
  · have h0 : n = 0 := by cases t <;> simp_all
    subst h0
    refine s_ass (s_run ?_)
    refine s_ret (fin (vs := [.s (.slice none 0 0)]) ⟨[none], [], _, _, wk [none] [] [.vec 1 0 0] [.vec 1 0 (rowI .u64 xs) false] (vals := .cons (.one (.nil rfl)) .nil) (blks := .cons (.nil rfl) .nil), rfl, rfl⟩)
  · refine s_skip (s_run ?_ (hq := by simp only [room, true_and, and_true]; omega))
    refine p_ret (fin (vs := [.vec 1 1 (0 + n)]) ⟨[some 1], [], _, _, wk [some 1] [] [.vec 1 0 n] [.vec 1 n (rowI .u64 xs) false] (vals := .cons (.one (.vec rfl (Nat.zero_add n))) .nil) (blks := .cons (.vec rfl (by simp) rfl (by omega) (fun h => nomatch h) fun i hi => ?_) .nil), rfl, rfl⟩)
    show (if i < 0 then _ else rowI .u64 (xs ++ [7171]) (i - 0)) = _
    rw [if_neg (by omega), Nat.sub_zero]
    simp only [rowI, getD_pre (show i < xs.length by omega)]
end Go.Proofs.Ytollibkfagjnaaa.Shape.Kit
