/- Code and functions, lent and kept. -/
import Derived.Test.YtollibkfagjnaaaShapeKitA
set_option linter.unusedVariables false
set_option linter.unusedSimpArgs false
set_option maxRecDepth 10000
namespace Go.Proofs.Ytollibkfagjnaaa.Shape.Kit
open Go.Proofs.Ytollibkfagjnaaa.AM
theorem pureRun_bind {α β : Type} (P : Program) (m : Sem α) (f : α → Sem β) : pureRun P (m >>= f) = (pureRun P m).bind fun a => pureRun P (f a) := by
  induction m with
  | pure a => rfl
  | program k ih => exact ih P
  | mark s k ih => exact ih
  | _ => rfl
theorem pureRun_program {α : Type} (P : Program) (f : Program → Sem α) : pureRun P (program >>= f) = pureRun P (f P) := rfl
theorem pureRun_pure {α : Type} (P : Program) (a : α) : pureRun P (pure a : Sem α) = some a := rfl
theorem pureRun_under (P : Program) (t : TypeId) (d : TypeDesc) (h : P.underlying t = some d) : pureRun P (underlying t) = some d := by
  unfold underlying
  rw [pureRun_program, h]; rfl
theorem eq_kind (t : TypeId) (k : IntKind) (ht : Try.prog.underlying t = some (.int k)) (d : Nat) (a b : Int) : pureRun Try.prog (Op.equalIn (d + 1) t (.int k a) (.int k b)) = some (a == b) := by
  have u3 := pureRun_under _ _ _ ht
  rw [Op.equalIn, pureRun_bind, u3]
  simp only [Option.bind_some, if_true]
  rfl
theorem pureRun_prog (P : Program) : pureRun P program = some P := rfl
theorem part_int (t : TypeId) (k : IntKind) (ht : Try.prog.underlying t = some (.int k)) (cs : Array Value) (i : Nat) (v : Value) (hv : cs[i]? = some v) : pureRun Try.prog (part t cs i) = some v := by
  have u := pureRun_under _ _ _ ht
  unfold part isAgg
  simp only [pureRun_bind, u, Option.bind_some, pureRun_pure, hv, Bool.false_eq_true, if_false]
theorem rowC_push {code : List (Int × Int)} {x : Int × Int} {i : Nat} (hi : i < code.length + 1) : (if i < code.length then rowC code i else ([i64 x.1, i64 x.2].drop ((i - code.length) * 2)).take 2) = rowC (code ++ [x]) i := by
  by_cases h : i < code.length
  · rw [if_pos h]
    simp only [rowC, List.getD_eq_getElem?_getD, List.getElem?_append_left h]
  · have : i = code.length := by omega
    subst this
    rw [if_neg (by omega)]
    simp [rowC, List.getD_eq_getElem?_getD, i64]
theorem lentCode_ok (code : List (Int × Int)) (hx : code.length < 8796093022207) : PFun E 74 [encC code] (valQ (isV (lentC code))) := by
  refine p_fun ?_
  show PTri E false [] _ [encC code, .junk, .junk] _ _
  refine s_run ?_
  refine s_run ?_
  refine s_run ?_ (hq := by simp only [room, true_and, and_true]; omega)
  refine s_run ?_ (hq := by simp only [room, true_and, and_true]; omega)
  refine s_run ?_
  refine p_ret (fin_z [2] rfl ?_)
  rintro v rfl
  exact .one (.vecf (by decide) rfl rfl (Nat.le_succ _) (Nat.le_refl _) fun i hi => rowC_push (x := (-71, 0)) hi)
theorem lentFunction_ok {f : Fn} (hf : FnFits f) : PFun E 35 [encF f] (valQ (isV (lentF f))) := by
  refine p_fun ?_
  show PTri E false [] _ [encF f, .junk, .junk] _ _
  refine s_run ?_
  refine s_reg (g_run 2 ?_)
  refine g_call (lentLabels_ok f.ps hf.ps) ?_
  rintro v rfl
  refine ⟨rfl, ?_⟩
  refine g_end ?_
  refine s_reg (g_run 2 ?_)
  refine g_call (lentLabels_ok f.rs hf.rs) ?_
  rintro v rfl
  refine ⟨rfl, ?_⟩
  refine g_end ?_
  refine s_reg (g_run 2 ?_)
  refine g_call (lentCode_ok f.code hf.cd) ?_
  rintro v rfl
  refine ⟨rfl, ?_⟩
  refine g_end ?_
  refine s_run ?_
  exact p_ret fin_v
end Go.Proofs.Ytollibkfagjnaaa.Shape.Kit
