/- The law on steps of frames. -/
import Derived.Test.YtollibkfagjnaaaShapeKitO
import Derived.Test.YtollibkfagjnaaaShapeKitP
set_option linter.unusedVariables false
set_option linter.unusedSimpArgs false
set_option maxRecDepth 10000
namespace Go.Proofs.Ytollibkfagjnaaa.Shape.Kit
open Go.Proofs.Ytollibkfagjnaaa.AM
theorem ite_ss {c : Prop} [Decidable c] {A B : SS} (P : SS → Prop) (h1 : c → P A) (h2 : ¬ c → P B) : P (if c then A else B) := by
  by_cases h : c
  · rw [if_pos h]; exact h1 h
  · rw [if_neg h]; exact h2 h
theorem stepS_len {m : Md} {i : Nat} {op A : Int} {xs lo : List Int} {lvl : Int} (hr : op = 45 → (fnAt m A.toNat).rs.length ≤ 4) : (stepS m i op A xs lo lvl).st.length ≤ xs.length + 4 ∧ (stepS m i op A xs lo lvl).lo.length = lo.length := by
  obtain ⟨P, hP⟩ : ∃ P : SS → Prop, P = fun S => S.st.length ≤ xs.length + 4 ∧ S.lo.length = lo.length := ⟨_, rfl⟩
  have key : P (stepS m i op A xs lo lvl) := by
    unfold stepS
    dsimp only
    repeat' (refine ite_ss P (fun h => ?_) (fun h => ?_))
    all_goals rw [hP]
    all_goals refine ⟨?_, by simp only [List.length_set]⟩
    all_goals simp only [List.length_append, List.length_take, List.length_cons, List.length_nil, List.length_map]
    all_goals first | omega | (have := hr ‹_›; omega)
  rw [hP] at key
  exact key
theorem stepT_fits {m : Md} {f a : Int} {x : Fr} (hx : FrFits x) {lvl : Int} : FrFits ⟨(stepT m f a x lvl).st, (stepT m f a x lvl).lo⟩ := by
  have x2 := hx.lo
  unfold stepT
  split
  · next h =>
    simp only [stepOk, Bool.and_eq_true, decide_eq_true_eq] at h
    obtain ⟨ht, h1, h2, h3, h4⟩ := h
    obtain ⟨hok, i, j, rfl, rfl, hi, hj⟩ := there_of ht
    have hz := ok_size hok hi
    rw [Int.toNat_natCast] at h2 ⊢
    rw [Int.toNat_natCast]
    obtain ⟨op, A, hxx⟩ : ∃ op A, (fnAt m i).code.getD j (0, 0) = (op, A) := ⟨_, _, rfl⟩
    obtain ⟨hop, hA⟩ := op_ok hok hi hj hxx
    rw [hxx]
    have := stepS_len (m := m) (i := i) (op := op) (A := A) (xs := x.st) (lo := x.lo) (lvl := lvl) fun e => (ok_size hok (i := A.toNat) (by have := hA e; omega)).2.1
    exact ⟨by simp only; omega, by simp only; omega⟩
  · exact ⟨by simp, by simp⟩
theorem frameSteps_ok {m : Md} (hf : MdFits m) (f a : Int) {x : Fr} (hfx : FrFits x) {lvl : Int} (hlvl : U64 lvl) : PFun E 3 [encM m, i64 f, i64 a, encFr x, u64 lvl] (valQ (isV (.s (.bool true)))) := by
  refine p_fun ?_
  show PTri E false [] _ [encM m, i64 f, i64 a, encFr x, u64 lvl, .junk, .junk, .junk, .junk, .junk, .junk, .junk, .junk, .junk, .junk, .junk] _ _
  refine s_run ?_
  refine s_drw (g_run 1 ?_)
  refine g_call (lentModule_ok hf) ?_
  rintro v rfl
  refine ⟨rfl, ?_⟩
  refine g_run 1 ?_
  refine g_call (lentFrame_ok hfx) ?_
  rintro v rfl
  refine ⟨rfl, ?_⟩
  refine g_end ?_
  refine s_reg (g_run 2 ?_)
  refine g_call (step_ok hf hfx hlvl f a) ?_
  rintro v rfl
  refine ⟨rfl, ?_⟩
  refine g_end ?_
  refine s_reg (g_run 2 ?_)
  refine g_call (rstep_ok hf hfx hlvl f a) ?_
  rintro v rfl
  refine ⟨rfl, ?_⟩
  refine g_end ?_
  have hfit := stepT_fits hfx (m := m) (f := f) (a := a) (lvl := lvl)
  obtain ⟨S, hS⟩ : ∃ S, stepT m f a x lvl = S := ⟨_, rfl⟩
  rw [hS] at hfit ⊢
  refine s_reg (g_run 2 ?_)
  refine g_call (frame_ok hfit) ?_
  rintro v rfl
  refine ⟨rfl, ?_⟩
  refine g_run 3 ?_
  refine prg_head (v' := .s (.bool true)) (by simp) ?_
  obtain ⟨st, lo, cd, kp⟩ := S
  cases kp with
  | false =>
    refine g_run 7 ?_
    refine g_call (keptModule_ok hf) ?_
    rintro v rfl
    refine ⟨rfl, ?_⟩
    refine g_run 3 ?_
    refine g_call (keptFrame_ok hfx) ?_
    rintro v rfl
    refine ⟨rfl, ?_⟩
    refine g_end ?_
    exact p_ret fin_v
  | true =>
    refine g_run 7 ?_
    refine g_call (keptModule_ok hf) ?_
    rintro v rfl
    refine ⟨rfl, ?_⟩
    refine g_run 3 ?_
    refine g_call (keptFrame_ok hfx) ?_
    rintro v rfl
    refine ⟨rfl, ?_⟩
    refine g_end ?_
    exact p_ret fin_v
end Go.Proofs.Ytollibkfagjnaaa.Shape.Kit
