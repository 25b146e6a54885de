/- Functions of graphs whose lists are one's own. -/
import Derived.Test.YtdbehmepikhghaaTabC
import Derived.Test.YtdbehmepikhghaaGraphA
set_option linter.unusedVariables false
set_option linter.unusedSimpArgs false
set_option maxRecDepth 10000
namespace Go.Proofs.Ytdbehmepikhghaa.Graph
open Go.Proofs.Ytdbehmepikhghaa.AM
/-- A list of one's own, with no more room, alone. -/
def ownQ (xs : List Int) : PV → PH → Prop := fun v hp => v = .exv 1 0 xs.length ∧ hp = [.vec 1 xs.length (rowI .i64 xs) false]
theorem intsX_ok (xs : List Int) (hn : xs.length < 1000000000) {full : Bool} : PCall E [0] 16 [.exv 1 0 xs.length, encI xs] [.vec 1 xs.length (rowI .i64 xs) full] (fun v hp => v = .s (.bool true) ∧ hp = [.vec 1 xs.length (rowI .i64 xs) full]) := by
  obtain ⟨n, hxn⟩ : ∃ n, xs.length = n := ⟨_, rfl⟩
  unfold encI
  rw [hxn] at hn ⊢
  refine p_call (fun _ _ => rfl) rfl ?_
  show PTri E false [0] _ [.exv 1 0 n, .frz 1 n n (rowI .i64 xs), .junk, .junk, .junk, .junk, .junk] _ _
  refine s_run ?_
  refine s_ass (s_run ?_)
  refine s_cond (fun h => ?_) (fun h => ?_)
  · exfalso; simp at h
  refine s_skip (s_ass (s_run ?_))
  refine s_loop (fun i => i ≤ n) (fun i => n - i) (fun i => [.exv 1 0 n, .frz 1 n n (rowI .i64 xs), .s (.bool false), .s (.int .i64 (i : Nat)), .junk, .junk, .junk]) (fun _ => [.vec 1 n (rowI .i64 xs) full]) 0 (Nat.zero_le _) (σ := [some 0]) (fz := []) (wk _ [] _ _ (vals := .cons (.one (.exv rfl rfl)) (.cons (.nlv rfl) (.cons (.nlv rfl) (.cons (.nlv rfl) (.cons (.one (.junk _)) (.cons (.one (.junk _)) (.cons (.one (.junk _)) .nil))))))) (blks := .cons bs_same .nil)) ?_
  rintro i hi
  refine s_ass (s_run ?_)
  refine s_cond (fun h => ?_) (fun h => ?_)
  · simp only [decide_eq_true_eq] at h
    have hil : i < n := by omega
    refine s_skip (s_block (d_run ?_))
    refine e_cond (fun h2 => ?_) (fun h2 => ?_)
    · exfalso; simp at h2
    · refine p_skip (e_run ?_)
      exact lp_next (i + 1) (by omega) (σ := [some 0]) (fz := []) (wk _ [] _ _ (vals := .cons (.one (.exv rfl rfl)) (.cons (.nlv rfl) (.cons (.nlv rfl) (.cons (.nlv rfl) (.cons (.one (.junk _)) (.cons (.one (.junk _)) (.cons (.one (.junk _)) .nil))))))) (blks := .cons bs_same .nil))
  · simp only [decide_eq_false_iff_not] at h
    refine s_exit ?_
    refine s_run ?_
    exact p_ret (fin ⟨rfl, rfl⟩)
/-- A list of one's own against what it holds, beside whatever else is there. -/
theorem prg_intsO {T L : List PV} {O : List Bool} {md : List Nat} {cnt lo l0 l1 l2 : Nat} {hp : PH} {dr : Bool} {p : List Nat} {ops : List AOper} {Q : List PV → PH → Prop} {gd : Option (AM.Src × Bool)} {x y : AM.Src} {v : PV} {xs : List Int} (hx : psev T L x = some v) (hy : psev T L y = some (encI xs)) (hv : OwnV hp v xs.length (rowI .i64 xs) l1 l2) (hn : xs.length < 1000000000) (hk : ∀ md' cnt', PRg E p dr T ops l0 ⟨.s (.bool true) :: L, false :: O, hp, md', cnt'⟩ Q) (hg : pwanted T L gd = some true := by rfl) : PRg E p dr T (⟨.call (.func 16) [x, y], gd, lo⟩ :: ops) l0 ⟨L, O, hp, md, cnt⟩ Q := by
  obtain ⟨b, full, rfl, h1, h2, h3⟩ := hv
  refine prg_kcall (st := ⟨L, O, hp, md, cnt⟩) (vs := [.exv 1 b xs.length, encI xs]) (x := b) (w := .s (.bool true)) h3 (intsX_ok xs hn) (.cons (.one (.exv rfl rfl)) (.cons (.nlv rfl) .nil)) rfl rfl (fun _ => rfl) hk rfl ?_ hg
  simp only [pevs, hx, hy]
end Go.Proofs.Ytdbehmepikhghaa.Graph
