import Derived.Test.YtggaimcopbjdiaaGraphKitA
set_option linter.unusedVariables false
set_option linter.unusedSimpArgs false
set_option maxRecDepth 10000
namespace Go.Proofs.Ytggaimcopbjdiaa.Graph.Kit
open Go.Proofs.Ytggaimcopbjdiaa.AM
theorem pureRun_bind {α β : Type} (P : Program) (m : Sem α) (f : α → Sem β) : pureRun P (m >>= f) = (pureRun P m).bind fun a => pureRun P (f a) := by
 induction m with
 | pure a => rfl
 | program k ih => exact ih P
 | mark s k ih => exact ih
 | _ => rfl
theorem pureRun_program {α : Type} (P : Program) (f : Program → Sem α) : pureRun P (program >>= f) = pureRun P (f P) := rfl
theorem pureRun_pure {α : Type} (P : Program) (a : α) : pureRun P (pure a : Sem α) = some a := rfl
theorem pureRun_under (P : Program) (t : TypeId) (d : TypeDesc) (h : P.underlying t = some d) : pureRun P (underlying t) = some d := by
 unfold underlying
 rw [pureRun_program, h]; rfl
theorem eq_kind (t : TypeId) (k : IntKind) (ht : Try.prog.underlying t = some (.int k)) (d : Nat) (a b : Int) : pureRun Try.prog (Op.equalIn (d + 1) t (.int k a) (.int k b)) = some (a == b) := by
 have u3 := pureRun_under _ _ _ ht
 rw [Op.equalIn, pureRun_bind, u3]
 simp only [Option.bind_some, if_true]
 rfl
theorem pureRun_prog (P : Program) : pureRun P program = some P := rfl
theorem part_int (t : TypeId) (k : IntKind) (ht : Try.prog.underlying t = some (.int k)) (cs : Array Value) (i : Nat) (v : Value) (hv : cs[i]? = some v) : pureRun Try.prog (part t cs i) = some v := by
 have u := pureRun_under _ _ _ ht
 unfold part isAgg
 simp only [pureRun_bind, u, Option.bind_some, pureRun_pure, hv, Bool.false_eq_true, if_false]
theorem pair_eq (t t1 t2 : TypeId) (k1 k2 : IntKind) (fs : Array Field) (hu : Try.prog.underlying t = some (.struct fs)) (f1 f2 : Field) (hfs : fs = #[f1, f2]) (n1 : f1.name ≠ "_") (n2 : f2.name ≠ "_") (hf1 : f1.type = t1 ∧ f1.offset = 0) (hf2 : f2.type = t2 ∧ f2.offset = 1)
  (hk1 : Try.prog.underlying t1 = some (.int k1)) (hk2 : Try.prog.underlying t2 = some (.int k2)) (h1 : Try.prog.eqGuardType Try.prog.depth t = false) (h2 : Try.prog.stoodInHeld t = false) (a b : Int) :
  pureRun Try.prog (Op.equal t (.agg #[.int k1 a, .int k2 b]) (.agg #[.int k1 a, .int k2 b])) = some true := by
 have u := pureRun_under _ _ _ hu
 subst hfs
 simp only [Op.equal]
 rw [show Op.maxDepth = 9998 + 1 + 1 from rfl, Op.equalIn]
 simp only [pureRun_bind, pureRun_prog, pureRun_pure, h2, u, Option.bind_some, Bool.false_eq_true, if_false, List.forIn_toArray, List.forIn_cons, List.forIn_nil, hf1.1, hf1.2, hf2.1, hf2.2, ne_eq, n1, n2, not_false_eq_true, if_true, eq_kind _ _ hk1, eq_kind _ _ hk2, part_int _ _ hk1 #[.int k1 a, .int k2 b] 0 (.int k1 a) rfl, part_int _ _ hk2 #[.int k1 a, .int k2 b] 1 (.int k2 b) rfl, beq_self_eq_true, Bool.not_true]
theorem struct_eq (t : TypeId) (k1 k2 : IntKind) (a b : Int) (x y : Operand) (h1 : Try.prog.eqGuardType Try.prog.depth t = false) (he : pureRun Try.prog (Op.equal t (.agg #[.int k1 a, .int k2 b]) (.agg #[.int k1 a, .int k2 b])) = some true) :
  aflat Try.prog (.bin .neq t x y) [.agg #[.int k1 a, .int k2 b], .agg #[.int k1 a, .int k2 b]] = some (.bool false) ∧ aflat Try.prog (.bin .eql t x y) [.agg #[.int k1 a, .int k2 b], .agg #[.int k1 a, .int k2 b]] = some (.bool true) := by
 constructor
 all_goals
  simp only [aflat]
  rw [if_pos (by simp [flat, flat1])]
  simp only [flatSem, eqGuard, binOp]
  simp only [pureRun_bind, pureRun_prog, pureRun_pure, h1, he, Option.bind_some, Bool.not_true, Bool.false_eq_true, if_false, Bool.not_false, if_true]
  rfl
theorem pairI (a b : Int) : pureRun Try.prog (Op.equal 83 (.agg #[.int .i64 a, .int .i64 b]) (.agg #[.int .i64 a, .int .i64 b])) = some true :=
 pair_eq 83 3 2 .i64 .i64 _ Try.underlying83 _ _ rfl (by decide) (by decide) ⟨rfl, rfl⟩ ⟨rfl, rfl⟩ Try.underlying3 Try.underlying2 (by kernel_rfl) (by kernel_rfl) a b
theorem instr_neq (a b : Int) (x y : Operand) : aflat Try.prog (.bin .neq 83 x y) [.agg #[.int .i64 a, .int .i64 b], .agg #[.int .i64 a, .int .i64 b]] = some (.bool false) := (struct_eq 83 .i64 .i64 a b x y (by kernel_rfl) (pairI a b)).1
theorem instr_eq (a b : Int) (x y : Operand) : aflat Try.prog (.bin .eql 83 x y) [.agg #[.int .i64 a, .int .i64 b], .agg #[.int .i64 a, .int .i64 b]] = some (.bool true) := (struct_eq 83 .i64 .i64 a b x y (by kernel_rfl) (pairI a b)).2
theorem code_ok {n k1 k2 : Nat} (xa xb : List (Int × Int)) (h : ∀ i, i < n → xa.getD i (0, 0) = xb.getD i (0, 0)) (hn : n < 100000000000000) : PFun E 55 [.frz 2 n k1 (rowC xa), .frz 2 n k2 (rowC xb)] (valQ (isV (.s (.bool true)))) := by
 refine p_fun ?_
 show PTri E false [] _ [.frz 2 n k1 (rowC xa), .frz 2 n k2 (rowC xb), .junk, .junk, .junk, .junk, .junk] _ _
 refine s_run ?_
 refine s_ass (s_run ?_)
 refine s_cond (fun h => ?_) (fun h => ?_)
 ·exfalso; simp at h
 refine s_skip (s_ass (s_run ?_))
 refine s_loop (fun i => i ≤ n) (fun i => n - i) (fun i => [.frz 2 n k1 (rowC xa), .frz 2 n k2 (rowC xb), .s (.bool false), .s (.int .i64 (i : Nat)), .junk, .junk, .junk]) (fun _ => []) 0 (Nat.zero_le _) (wk [] [] _ _) ?_
 rintro i hi
 refine s_ass (s_run ?_)
 refine s_cond (fun h => ?_) (fun h => ?_)
 ·simp only [decide_eq_true_eq] at h
  have hil : i < n := by omega
  have hh := ‹∀ i, i < n → xa.getD i (0, 0) = xb.getD i (0, 0)› i hil
  refine s_skip (s_block (s_drw (g_run 4 ?_)))
  refine prg_flat rfl rfl rfl (v := .bool false) (by rw [hh]; exact instr_neq _ _ _ _) ?_
  refine g_end ?_
  refine e_f ?_
  refine p_skip (e_run ?_)
  exact lp_next (i + 1) (by omega) (wk [] [] _ _)
 ·refine s_exit ?_
  refine s_run ?_
  exact p_ret fin_v
theorem keptCode_ok (xs : List (Int × Int)) (hx : xs.length < 8796093022207) : PFun E 38 [lentC xs, encC xs] (valQ (isV (.s (.bool true)))) := by
 refine p_fun ?_
 show PTri E false [] _ [lentC xs, encC xs, .junk, .junk, .junk] _ _
 refine s_run ?_
 refine s_ass (s_reg ?_)
 refine g_call (code_ok (n := xs.length) (xs ++ [(-71, 0)]) xs (fun i hi => getD_pre hi) (by omega)) ?_
 rintro v rfl
 refine ⟨rfl, ?_⟩
 refine g_end ?_
 refine s_f (s_skip ?_)
 refine s_run ?_
 refine s_reg (g_run 3 ?_)
 rw [getD_end]
 refine g_run 1 ?_
 refine prg_flat rfl rfl rfl (v := .bool true) (instr_eq _ _ _ _) ?_
 refine g_end ?_
 exact p_ret fin_v
theorem rowC_push {code : List (Int × Int)} {x : Int × Int} {i : Nat} (hi : i < code.length + 1) : (if i < code.length then rowC code i else ([i64 x.1, i64 x.2].drop ((i - code.length) * 2)).take 2) = rowC (code ++ [x]) i := by
 by_cases h : i < code.length
 ·rw [if_pos h]
  simp only [rowC, List.getD_eq_getElem?_getD, List.getElem?_append_left h]
 ·have : i = code.length := by omega
  subst this
  rw [if_neg (by omega)]
  simp [rowC, List.getD_eq_getElem?_getD, i64]
theorem lentCode_ok (code : List (Int × Int)) (hx : code.length < 8796093022207) : PFun E 28 [encC code] (valQ (isV (lentC code))) := by
 refine p_fun ?_
 show PTri E false [] _ [encC code, .junk, .junk] _ _
 refine s_run ?_
 refine s_run ?_
 refine s_run ?_ (hq := by simp only [room, true_and, and_true]; omega)
 refine s_run ?_ (hq := by simp only [room, true_and, and_true]; omega)
 refine s_run ?_
 refine p_ret (fin_z [2] rfl ?_)
 rintro v rfl
 exact .one (.vecf (by decide) rfl rfl (Nat.le_succ _) (Nat.le_refl _) fun i hi => rowC_push (x := (-71, 0)) hi)
theorem lentFunction_ok {f : Fn} (hf : FnFits f) : PFun E 10 [encF f] (valQ (isV (lentF f))) := by
 refine p_fun ?_
 show PTri E false [] _ [encF f, .junk, .junk] _ _
 refine s_run ?_
 refine s_reg (g_run 2 ?_)
 refine g_call (lentLabels_ok f.ps hf.ps) ?_
 rintro v rfl
 refine ⟨rfl, ?_⟩
 refine g_end ?_
 refine s_reg (g_run 2 ?_)
 refine g_call (lentLabels_ok f.rs hf.rs) ?_
 rintro v rfl
 refine ⟨rfl, ?_⟩
 refine g_end ?_
 refine s_reg (g_run 2 ?_)
 refine g_call (lentCode_ok f.code hf.cd) ?_
 rintro v rfl
 refine ⟨rfl, ?_⟩
 refine g_end ?_
 refine s_run ?_
 exact p_ret fin_v
theorem keptFunction_ok {f : Fn} (hf : FnFits f) : PFun E 16 [lentF f, encF f] (valQ (isV (.s (.bool true)))) := by
 refine p_fun ?_
 show PTri E false [] _ [lentF f, encF f, .junk, .junk, .junk] _ _
 refine s_run ?_
 refine s_reg (g_run 5 ?_)
 refine prg_head (v' := .s (.bool true)) (by simp) ?_
 refine g_run 5 ?_
 refine prg_head (v' := .s (.bool true)) (by simp) ?_
 refine g_run 6 ?_
 refine prg_head (v' := .s (.bool true)) (by simp) ?_
 refine g_run 5 ?_
 refine g_call (keptLabels_ok f.ps hf.ps) ?_
 rintro v rfl
 refine ⟨rfl, ?_⟩
 refine g_run 5 ?_
 refine g_call (keptLabels_ok f.rs hf.rs) ?_
 rintro v rfl
 refine ⟨rfl, ?_⟩
 refine g_run 5 ?_
 refine g_call (keptCode_ok f.code hf.cd) ?_
 rintro v rfl
 refine ⟨rfl, ?_⟩
 refine g_end ?_
 exact p_ret fin_v
end Go.Proofs.Ytggaimcopbjdiaa.Graph.Kit
