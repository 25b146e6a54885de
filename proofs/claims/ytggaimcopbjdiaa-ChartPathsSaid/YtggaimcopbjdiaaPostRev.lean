import Derived.Test.YtggaimcopbjdiaaGraphCode
import Derived.Test.YtggaimcopbjdiaaPN
import Derived.Test.YtggaimcopbjdiaaGraphP
set_option linter.unusedVariables false
set_option linter.unusedSimpArgs false
set_option maxRecDepth 10000
namespace Go.Proofs.Ytggaimcopbjdiaa.Graph
open Go.Proofs.Ytggaimcopbjdiaa.AM
theorem p_fn {p : List Nat} {f : FuncId} {fn : AFunc} {args : List PV} {hp : PH} {R : PV → PH → Prop} (h : PTri E false p fn.body (fn.keep.map fun t => (args[t]?).getD .junk) hp (retQ fn.res R)) (hx : ∀ avs (H : AH TV), E.ext f avs H = none := by exact fun _ _ => rfl) (hf : E.fn f = some fn := by rfl) : PCall E p f args hp R := p_call hx hf h
theorem p_fnw {p : List Nat} {f : FuncId} {fn : AFunc} {args : List PV} {hp : PH} {R : PV → PH → Prop} (h : PTri E false p fn.body (fn.keep.map fun t => (args[t]?).getD .junk) hp (retQ fn.res fun v hp' => ∃ σ fz v2 hp2, Weak p σ fz [v] hp' [v2] hp2 ∧ R v2 hp2)) (hx : ∀ avs (H : AH TV), E.ext f avs H = none := by exact fun _ _ => rfl) (hf : E.fn f = some fn := by rfl) : PCall E p f args hp R := call_post (p_call hx hf h)
def dn (n c : Nat) : Int := (n : Int) - 1 - c
def tu (n c : Nat) (h : Nat → Int) (j : Nat) : Int := if j < c ∨ n ≤ j + c then h (n - 1 - j) else h j
theorem reverse_ok (n : Nat) (h : Nat → Int) (hn : n < 100000000) : PCall E [0] 72 [.vec 1 0 n] [.vec 1 n (fun j => [i64 (h j)]) true] (fun v hp => v = .tup [] ∧ hp = [.vec 1 n (fun j => [i64 (h (n - 1 - j))]) true]) := by
 refine p_fnw ?_
 show PTri E false _ _ [.vec 1 0 n, .junk, .junk, .junk] _ _
 refine s_run ?_
 refine e_loop (fun c => 2 * c ≤ n) (fun c => n - c) (fun c => [.vec 1 0 n, i64 (c : Nat), i64 (dn n c), .junk]) (fun c => [.vec 1 n (fun j => [i64 (tu n c h j)]) true]) 0 (by omega) (wk [some 0] [] _ _ (vals := .cons (.one (.vec rfl rfl)) (.cons (.nlv rfl) (.cons (.one (.s (by unfold dn; congr 1; omega))) (.cons (.one (.junk _)) .nil)))) (blks := .cons (bs_vec rfl fun j hj => by unfold tu; rw [if_neg (by omega)]) .nil)) ?_
 intro c hc
 refine s_ass (s_run ?_)
 refine s_cond (fun h1 => ?_) (fun h1 => ?_)
 ·simp only [decide_eq_true_eq] at h1
  have hlt : c + c + 1 < n := by unfold dn at h1; omega
  have e : dn n c = ((n - 1 - c : Nat) : Int) := by unfold dn; omega
  rw [e]
  refine s_skip (s_block (ed_run ?_))
  refine e_run ?_
  refine lp_next (c + 1) (by omega) (wk [some 0] [] _ _ (vals := .cons (.one (.vec rfl rfl)) (.cons (.nlv rfl) (.cons (.one (.s (by unfold dn; congr 1; omega))) (.cons (.one (.junk _)) .nil)))) (blks := .cons (bs_vec rfl fun j hj => ?_) .nil))
  have t1 : tu n c h c = h c := by unfold tu; rw [if_neg (by omega)]
  have t2 : tu n c h (n - 1 - c) = h (n - 1 - c) := by unfold tu; rw [if_neg (by omega)]
  by_cases j1 : j = n - 1 - c
  ·subst j1
   have t3 : tu n (c + 1) h (n - 1 - c) = h c := by unfold tu; rw [if_pos (by omega)]; congr 1; omega
   rw [t3, ← t1]
   simp only [if_true]
   rw [if_neg (by omega)]
   rfl
  ·by_cases j2 : j = c
   ·subst j2
    have t3 : tu n (j + 1) h j = h (n - 1 - j) := by unfold tu; rw [if_pos (by omega)]
    rw [t3, ← t2, if_neg j1]
    dsimp only
    rw [if_pos rfl]
    rfl
   ·rw [if_neg j1]
    dsimp only
    rw [if_neg j2]
    have : tu n (c + 1) h j = tu n c h j := by
     unfold tu
     by_cases q : j < c ∨ n ≤ j + c
     ·rw [if_pos q, if_pos (by omega)]
     ·rw [if_neg q, if_neg (by omega)]
    rw [this]
 ·simp only [decide_eq_false_iff_not] at h1
  have hge : n ≤ c + c + 1 := by unfold dn at h1; omega
  refine s_exit ?_
  refine (show retQ [] (fun v hp' => ∃ σ fz v2 hp2, Weak [0] σ fz [v] hp' [v2] hp2 ∧ v2 = .tup [] ∧ hp2 = [.vec 1 n (fun j => [i64 (h (n - 1 - j))]) true]) .norm _ _ from fin (vs := []) ⟨[some 0], [], .tup [], _, wk [some 0] [] _ _ (vals := .cons (.nlv rfl) .nil) (blks := .cons (bs_vec rfl fun j hj => ?_) .nil), rfl, rfl⟩)
  unfold tu
  by_cases q : j < c ∨ n ≤ j + c
  ·rw [if_pos q]
  ·rw [if_neg q]
   have : n - 1 - j = j := by omega
   rw [this]
end Go.Proofs.Ytggaimcopbjdiaa.Graph
