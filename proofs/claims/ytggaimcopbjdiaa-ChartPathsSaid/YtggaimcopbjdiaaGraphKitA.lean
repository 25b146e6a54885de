import Derived.Test.YtggaimcopbjdiaaGraphCode
import Derived.Test.YtggaimcopbjdiaaPM
set_option linter.unusedVariables false
set_option linter.unusedSimpArgs false
set_option maxRecDepth 10000
namespace Go.Proofs.Ytggaimcopbjdiaa.Graph.Kit
open Go.Proofs.Ytggaimcopbjdiaa.AM
def i64 (x : Int) : PV := .s (.int .i64 x)
def u64 (x : Int) : PV := .s (.int .u64 x)
structure Fn where
 lvl : Int
 ps : List Int
 rs : List Int
 loc : Int
 stk : Int
 code : List (Int × Int)
instance : Inhabited Fn := ⟨⟨0, [], [], 0, 0, []⟩⟩
structure Md where
 gs : List Int
 arrays : List (Int × Int)
 chans : List Int
 fns : List Fn
def rowC (code : List (Int × Int)) : Nat → List PV := fun i => [.s (.int .i64 (code.getD i (0, 0)).1), .s (.int .i64 (code.getD i (0, 0)).2)]
def encC (code : List (Int × Int)) : PV := .frz 2 code.length code.length (rowC code)
def cellsF (f : Fn) : List PV := [.s (.int .u64 f.lvl), encU f.ps, encU f.rs, .s (.int .i64 f.loc), .s (.int .i64 f.stk), encC f.code]
def encF (f : Fn) : PV := .agg (cellsF f)
def lentU (xs : List Int) : PV := .frz 1 xs.length (xs.length + 1) (rowI .u64 (xs ++ [7171]))
def lentC (code : List (Int × Int)) : PV := .frz 2 code.length (code.length + 1) (rowC (code ++ [(-71, 0)]))
def lentCells (f : Fn) : List PV := [.s (.int .u64 f.lvl), lentU f.ps, lentU f.rs, .s (.int .i64 f.loc), .s (.int .i64 f.stk), lentC f.code]
def lentF (f : Fn) : PV := .agg (lentCells f)
structure FnFits (f : Fn) : Prop where
 ps : f.ps.length < 17592186044415
 rs : f.rs.length < 17592186044415
 cd : f.code.length < 8796093022207
structure MdFits (m : Md) : Prop where
 gs : m.gs.length < 17592186044415
 arrays : m.arrays.length < 8796093022207
 chans : m.chans.length < 17592186044415
 fns : m.fns.length < 1466015503700
 each : ∀ f, f ∈ m.fns → FnFits f
theorem getD_pre {α : Type} {l m : List α} {i : Nat} {d : α} (h : i < l.length) : (l ++ m).getD i d = l.getD i d := by
 simp only [List.getD_eq_getElem?_getD, List.getElem?_append_left h]
theorem getD_end {α : Type} {l : List α} {x d : α} : (l ++ [x]).getD l.length d = x := by simp [List.getD_eq_getElem?_getD]
theorem labels_ok {n k1 k2 : Nat} (xa xb : List Int) (h : ∀ i, i < n → xa.getD i 0 = xb.getD i 0) (hn : n < 100000000000000) : PFun E 54 [.frz 1 n k1 (rowI .u64 xa), .frz 1 n k2 (rowI .u64 xb)] (valQ (isV (.s (.bool true)))) := by
 refine p_fun ?_
 show PTri E false [] _ [.frz 1 n k1 (rowI .u64 xa), .frz 1 n k2 (rowI .u64 xb), .junk, .junk, .junk, .junk, .junk] _ _
 refine s_run ?_
 refine s_ass (s_run ?_)
 refine s_cond (fun h => ?_) (fun h => ?_)
 ·exfalso; simp at h
 refine s_skip (s_ass (s_run ?_))
 refine s_loop (fun i => i ≤ n) (fun i => n - i) (fun i => [.frz 1 n k1 (rowI .u64 xa), .frz 1 n k2 (rowI .u64 xb), .s (.bool false), .s (.int .i64 (i : Nat)), .junk, .junk, .junk]) (fun _ => []) 0 (Nat.zero_le _) (wk [] [] _ _) ?_
 rintro i hi
 refine s_ass (s_run ?_)
 refine s_cond (fun h => ?_) (fun h => ?_)
 ·simp only [decide_eq_true_eq] at h
  have hil : i < n := by omega
  refine s_skip (s_block (d_run ?_))
  refine e_cond (fun h2 => ?_) (fun h2 => ?_)
  ·exfalso
   have := ‹∀ i, i < n → xa.getD i 0 = xb.getD i 0› i hil
   simp only [this] at h2
   simp at h2
  ·refine p_skip (e_run ?_)
   exact lp_next (i + 1) (by omega) (wk [] [] _ _)
 ·refine s_exit ?_
  refine s_run ?_
  exact p_ret fin_v
theorem keptLabels_ok (xs : List Int) (hx : xs.length < 17592186044415) : PFun E 37 [lentU xs, encU xs] (valQ (isV (.s (.bool true)))) := by
 refine p_fun ?_
 show PTri E false [] _ [lentU xs, encU xs, .junk, .junk, .junk] _ _
 refine s_run ?_
 refine s_ass (s_reg ?_)
 refine g_call (labels_ok (n := xs.length) (xs ++ [7171]) xs (fun i hi => getD_pre hi) (by omega)) ?_
 rintro v rfl
 refine ⟨rfl, ?_⟩
 refine g_end ?_
 refine s_f (s_skip ?_)
 refine s_run ?_
 refine s_reg (g_run 3 ?_)
 rw [getD_end]
 refine g_end ?_
 exact p_ret fin_v
theorem lentLabels_ok (xs : List Int) (hx : xs.length < 17592186044415) : PFun E 27 [encU xs] (valQ (isV (lentU xs))) := by
 refine p_fun ?_
 show PTri E false [] _ [encU xs, .junk, .junk] _ _
 refine s_run ?_
 refine s_run ?_
 refine s_run ?_ (hq := by simp only [room, true_and, and_true]; omega)
 refine s_run ?_ (hq := by simp only [room, true_and, and_true]; omega)
 refine s_run ?_
 refine p_ret (fin_z [2] rfl ?_)
 rintro v rfl
 exact .one (.vecf (by decide) rfl rfl (Nat.le_succ _) (Nat.le_refl _) fun i hi => row1_push (en := fun n => .s (.int .u64 n)) (d := 0) (x := 7171) (xs := xs) hi)
end Go.Proofs.Ytggaimcopbjdiaa.Graph.Kit
