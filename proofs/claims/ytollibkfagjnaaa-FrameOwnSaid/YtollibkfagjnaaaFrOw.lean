/- The law on lists that are answered: they are memory of their own. PRINTED by gow.py. -/
import Derived.Test.YtollibkfagjnaaaFrOd
import Derived.Test.YtollibkfagjnaaaFrEo
import Derived.Test.YtollibkfagjnaaaFrHo
import Derived.Test.YtollibkfagjnaaaFrTb
import Derived.Test.YtollibkfagjnaaaFrGo
import Derived.Test.YtollibkfagjnaaaFrKn
import Derived.Test.YtollibkfagjnaaaFrJ
set_option linter.unusedVariables false
set_option linter.unusedSimpArgs false
set_option maxRecDepth 10000
namespace Go.Proofs.Ytollibkfagjnaaa.Shape.Kit
open Go.Proofs.Ytollibkfagjnaaa.AM
theorem fjoinO_ok {x : Fr} (hx : FrFits x) (h1 : x.st.length ≤ 17592186043904) (h2 : x.lo.length ≤ 17592186043904) : PCall E [] 28 [lentFr x, lentFr x] [] (FrO fun z => .tup [z, .s (.bool true)]) := by
  have e := frV_lent x
  rw [← e]
  refine fjoin_eq rfl rfl hx ?_
  exact p_ret (fin ⟨x.st.length, x.lo.length, x.st.length, x.lo.length, joinL x.st x.st, joinL x.lo x.lo, true, true, rfl, rfl, Nat.le_refl _, Nat.le_refl _, by omega, by omega⟩)
theorem frameOwn_ok {m : Md} (hg : MdGood m) (f a : Int) (hf : in64 f) {x : Fr} (hx : FrFits x) (h1 : x.st.length ≤ 17592186043904) (h2 : x.lo.length ≤ 17592186043904) {lv : Int} (hlv : U64 lv) : PFun E 5 [encM m, i64 f, i64 a, encFr x, u64 lv] (valQ (isV (.s (.bool true)))) := by
  refine p_fun ?_
  show PTri E false [] _ [encM m, i64 f, i64 a, encFr x, u64 lv, .junk, .junk, .junk, .junk, .junk, .junk, .junk, .junk, .junk, .junk, .junk, .junk, .junk, .junk, .junk] _ _
  refine s_run ?_
  refine s_ass (s_reg ?_)
  refine g_call known_ok ?_
  rintro v rfl
  refine ⟨rfl, ?_⟩
  refine g_end ?_
  refine s_f (s_skip ?_)
  have one0 : ∀ {j : Nat}, j < 1 → j = 0 := fun h => by omega
  refine p_weak [] [0, 1] (T' := [.junk, i64 f, i64 a, .junk, u64 lv, .fptr 4 1 (fun _ => cellsM m) 0 0, .fptr 2 1 (fun _ => [encU x.st, encU x.lo]) 0 0, .s (.bool false), .junk, .junk, .junk, .junk, .junk, .junk, .junk, .junk, .junk, .junk, .junk, .junk]) (hp' := []) (wk _ _ _ _ (vals := ?_)) ?_
  · refine .cons (.one (.junk _)) (.cons (.nlv rfl) (.cons (.nlv rfl) (.cons (.one (.junk _)) (.cons (.nlv rfl) (.cons (.one ?_) (.cons (.one ?_) (.cons (.nlv rfl) ?_)))))))
    · exact .ptrf (.head _) rfl (by omega) rfl (by simp [cellsM]) rfl fun j hj => by obtain rfl := one0 hj; rfl
    · exact .ptrf (.tail _ (.head _)) rfl (by omega) rfl (by simp) rfl fun j hj => by obtain rfl := one0 hj; rfl
    · repeat' (first | exact VSubs.nil | apply VSubs.cons | exact VSub.one (VSub1.junk _))
  refine s_drw (g_run 1 ?_)
  refine g_call (lentModule_ok hg.fits) ?_
  rintro v rfl
  refine ⟨rfl, ?_⟩
  refine g_run 1 ?_
  refine g_call (lentFrame_ok hx) ?_
  rintro v rfl
  refine ⟨rfl, ?_⟩
  refine g_end ?_
  refine p_weak [] [0, 1] (T' := [.junk, i64 f, i64 a, .junk, u64 lv, .fptr 4 1 (fun _ => cellsM m) 0 0, .fptr 2 1 (fun _ => [encU x.st, encU x.lo]) 0 0, .s (.bool false), .fptr 4 1 (fun _ => cellsL m) 0 0, .fptr 2 1 (fun _ => [lentU x.st, lentU x.lo]) 0 0, .junk, .junk, .junk, .junk, .junk, .junk, .junk, .junk, .junk, .junk]) (hp' := []) (wk _ _ _ _ (vals := ?_)) ?_
  · refine .cons (.one (.junk _)) (.cons (.nlv rfl) (.cons (.nlv rfl) (.cons (.one (.junk _)) (.cons (.nlv rfl) (.cons (.nlv rfl) (.cons (.nlv rfl) (.cons (.nlv rfl) (.cons (.one ?_) (.cons (.one ?_) ?_)))))))))
    · exact .ptrf (.head _) rfl (by omega) rfl (by simp) rfl fun j hj => by obtain rfl := one0 hj; rfl
    · exact .ptrf (.tail _ (.head _)) rfl (by omega) rfl (by simp) rfl fun j hj => by obtain rfl := one0 hj; rfl
    · repeat' (first | exact VSubs.nil | apply VSubs.cons | exact VSub.one (VSub1.junk _))
  refine s_reg (g_run 2 ?_)
  refine g_scall [] [] (args' := [lentM m, i64 f, i64 a, lentFr x, u64 lv]) (hpc := []) (stepO_ok hg.fits hx h2 hlv f a) ⟨rfl, rfl, rfl, .cons (.nlv rfl) (.cons (.nlv rfl) (.cons (.nlv rfl) (.cons (.nlv rfl) (.cons (.nlv rfl) .nil)))), .nil⟩ ?_
  rintro v hpc ⟨cd0, kp0, a0, b0, p0, q0, ys0, zs0, t0, u0, rfl, rfl, ha0, hb0, hA0, hB0⟩
  refine ⟨rfl, rfl, Nat.zero_le _, ?_⟩
  refine g_end ?_
  refine p_weak [some 3, some 1, some 2] [] (T' := [.junk, i64 f, i64 a, .junk, u64 lv, .fptr 4 1 (fun _ => cellsM m) 0 0, .fptr 2 1 (fun _ => [encU x.st, encU x.lo]) 0 0, .s (.bool false), .fptr 4 1 (fun _ => cellsL m) 0 0, .fptr 2 1 (fun _ => [lentU x.st, lentU x.lo]) 0 0, .ptr 0 0, .junk, .junk, .junk, .junk, .junk, .junk, .junk, .junk, .junk]) (hp' := [.cel [.vec 1 1 a0, .vec 1 2 b0], .vec 1 p0 (rowI .u64 ys0) t0, .vec 1 q0 (rowI .u64 zs0) u0]) (wk _ _ _ _ (blks := .cons (.cel rfl (by decide) rfl (.cons (.one (.vec rfl rfl)) (.cons (.one (.vec rfl rfl)) .nil))) (.cons bs_same (.cons bs_same (.nil))))) ?_
  refine s_reg (g_run 2 ?_)
  refine g_scall [] [] (args' := [lentM m, i64 f, i64 a, lentFr x, u64 lv]) (hpc := []) (stepO_ok hg.fits hx h2 hlv f a) ⟨rfl, rfl, rfl, .cons (.nlv rfl) (.cons (.nlv rfl) (.cons (.nlv rfl) (.cons (.nlv rfl) (.cons (.nlv rfl) .nil)))), .nil⟩ ?_
  rintro v hpc ⟨cd1, kp1, a1, b1, p1, q1, ys1, zs1, t1, u1, rfl, rfl, ha1, hb1, hA1, hB1⟩
  refine ⟨rfl, rfl, Nat.zero_le _, ?_⟩
  refine g_end ?_
  refine p_weak [some 0, some 1, some 2, some 6, some 4, some 5] [] (T' := [.junk, i64 f, i64 a, .junk, u64 lv, .fptr 4 1 (fun _ => cellsM m) 0 0, .fptr 2 1 (fun _ => [encU x.st, encU x.lo]) 0 0, .s (.bool false), .fptr 4 1 (fun _ => cellsL m) 0 0, .fptr 2 1 (fun _ => [lentU x.st, lentU x.lo]) 0 0, .ptr 0 0, .ptr 3 0, .junk, .junk, .junk, .junk, .junk, .junk, .junk, .junk]) (hp' := [.cel [.vec 1 1 a0, .vec 1 2 b0], .vec 1 p0 (rowI .u64 ys0) t0, .vec 1 q0 (rowI .u64 zs0) u0, .cel [.vec 1 4 a1, .vec 1 5 b1], .vec 1 p1 (rowI .u64 ys1) t1, .vec 1 q1 (rowI .u64 zs1) u1]) (wk _ _ _ _ (blks := .cons (.cel rfl (by decide) rfl (.cons (.one (.vec rfl rfl)) (.cons (.one (.vec rfl rfl)) .nil))) (.cons bs_same (.cons bs_same (.cons (.cel rfl (by decide) rfl (.cons (.one (.vec rfl rfl)) (.cons (.one (.vec rfl rfl)) .nil))) (.cons bs_same (.cons bs_same (.nil)))))))) ?_
  refine s_drw (g_run 1 ?_)
  refine g_scall [] [] (args' := [lentM m, i64 f]) (hpc := []) (entryO_ok hg.fits hg.psl f) ⟨rfl, rfl, rfl, .cons (.nlv rfl) (.cons (.nlv rfl) .nil), .nil⟩ ?_
  rintro v hpc ⟨a2, b2, p2, q2, ys2, zs2, t2, u2, rfl, rfl, ha2, hb2, hA2, hB2⟩
  refine ⟨rfl, rfl, Nat.zero_le _, ?_⟩
  refine g_run 1 ?_
  refine g_scall [] [] (args' := [lentM m, i64 f]) (hpc := []) (entryO_ok hg.fits hg.psl f) ⟨rfl, rfl, rfl, .cons (.nlv rfl) (.cons (.nlv rfl) .nil), .nil⟩ ?_
  rintro v hpc ⟨a3, b3, p3, q3, ys3, zs3, t3, u3, rfl, rfl, ha3, hb3, hA3, hB3⟩
  refine ⟨rfl, rfl, Nat.zero_le _, ?_⟩
  refine g_end ?_
  refine p_weak [some 0, some 1, some 2, some 3, some 4, some 5, some 12, some 7, some 8, some 13, some 10, some 11] [] (T' := [.junk, i64 f, i64 a, .junk, u64 lv, .fptr 4 1 (fun _ => cellsM m) 0 0, .fptr 2 1 (fun _ => [encU x.st, encU x.lo]) 0 0, .s (.bool false), .fptr 4 1 (fun _ => cellsL m) 0 0, .fptr 2 1 (fun _ => [lentU x.st, lentU x.lo]) 0 0, .ptr 0 0, .ptr 3 0, .ptr 6 0, .ptr 9 0, .junk, .junk, .junk, .junk, .junk, .junk]) (hp' := [.cel [.vec 1 1 a0, .vec 1 2 b0], .vec 1 p0 (rowI .u64 ys0) t0, .vec 1 q0 (rowI .u64 zs0) u0, .cel [.vec 1 4 a1, .vec 1 5 b1], .vec 1 p1 (rowI .u64 ys1) t1, .vec 1 q1 (rowI .u64 zs1) u1, .cel [.vec 1 7 a2, .vec 1 8 b2], .vec 1 p2 (rowI .u64 ys2) t2, .vec 1 q2 (rowI .u64 zs2) u2, .cel [.vec 1 10 a3, .vec 1 11 b3], .vec 1 p3 (rowI .u64 ys3) t3, .vec 1 q3 (rowI .u64 zs3) u3]) (wk _ _ _ _ (blks := .cons (.cel rfl (by decide) rfl (.cons (.one (.vec rfl rfl)) (.cons (.one (.vec rfl rfl)) .nil))) (.cons bs_same (.cons bs_same (.cons (.cel rfl (by decide) rfl (.cons (.one (.vec rfl rfl)) (.cons (.one (.vec rfl rfl)) .nil))) (.cons bs_same (.cons bs_same (.cons (.cel rfl (by decide) rfl (.cons (.one (.vec rfl rfl)) (.cons (.one (.vec rfl rfl)) .nil))) (.cons bs_same (.cons bs_same (.cons (.cel rfl (by decide) rfl (.cons (.one (.vec rfl rfl)) (.cons (.one (.vec rfl rfl)) .nil))) (.cons bs_same (.cons bs_same (.nil)))))))))))))) ?_
  refine s_reg (g_run 2 ?_)
  refine g_scall [] [] (args' := [lentFr x, lentFr x]) (hpc := []) (fjoinO_ok hx h1 h2) ⟨rfl, rfl, rfl, .cons (.nlv rfl) (.cons (.nlv rfl) .nil), .nil⟩ ?_
  rintro v hpc ⟨a4, b4, p4, q4, ys4, zs4, t4, u4, rfl, rfl, ha4, hb4, hA4, hB4⟩
  refine ⟨rfl, rfl, Nat.zero_le _, ?_⟩
  refine g_end ?_
  refine p_weak [some 0, some 1, some 2, some 3, some 4, some 5, some 6, some 7, some 8, some 9, some 10, some 11, some 15, some 13, some 14] [] (T' := [.junk, i64 f, i64 a, .junk, u64 lv, .fptr 4 1 (fun _ => cellsM m) 0 0, .fptr 2 1 (fun _ => [encU x.st, encU x.lo]) 0 0, .s (.bool false), .fptr 4 1 (fun _ => cellsL m) 0 0, .fptr 2 1 (fun _ => [lentU x.st, lentU x.lo]) 0 0, .ptr 0 0, .ptr 3 0, .ptr 6 0, .ptr 9 0, .ptr 12 0, .junk, .junk, .junk, .junk, .junk]) (hp' := [.cel [.vec 1 1 a0, .vec 1 2 b0], .vec 1 p0 (rowI .u64 ys0) t0, .vec 1 q0 (rowI .u64 zs0) u0, .cel [.vec 1 4 a1, .vec 1 5 b1], .vec 1 p1 (rowI .u64 ys1) t1, .vec 1 q1 (rowI .u64 zs1) u1, .cel [.vec 1 7 a2, .vec 1 8 b2], .vec 1 p2 (rowI .u64 ys2) t2, .vec 1 q2 (rowI .u64 zs2) u2, .cel [.vec 1 10 a3, .vec 1 11 b3], .vec 1 p3 (rowI .u64 ys3) t3, .vec 1 q3 (rowI .u64 zs3) u3, .cel [.vec 1 13 a4, .vec 1 14 b4], .vec 1 p4 (rowI .u64 ys4) t4, .vec 1 q4 (rowI .u64 zs4) u4]) (wk _ _ _ _ (blks := .cons (.cel rfl (by decide) rfl (.cons (.one (.vec rfl rfl)) (.cons (.one (.vec rfl rfl)) .nil))) (.cons bs_same (.cons bs_same (.cons (.cel rfl (by decide) rfl (.cons (.one (.vec rfl rfl)) (.cons (.one (.vec rfl rfl)) .nil))) (.cons bs_same (.cons bs_same (.cons (.cel rfl (by decide) rfl (.cons (.one (.vec rfl rfl)) (.cons (.one (.vec rfl rfl)) .nil))) (.cons bs_same (.cons bs_same (.cons (.cel rfl (by decide) rfl (.cons (.one (.vec rfl rfl)) (.cons (.one (.vec rfl rfl)) .nil))) (.cons bs_same (.cons bs_same (.cons (.cel rfl (by decide) rfl (.cons (.one (.vec rfl rfl)) (.cons (.one (.vec rfl rfl)) .nil))) (.cons bs_same (.cons bs_same (.nil))))))))))))))))) ?_
  refine s_reg (g_run 2 ?_)
  refine g_scall [] [] (args' := [lentFr x, lentFr x]) (hpc := []) (fjoinO_ok hx h1 h2) ⟨rfl, rfl, rfl, .cons (.nlv rfl) (.cons (.nlv rfl) .nil), .nil⟩ ?_
  rintro v hpc ⟨a5, b5, p5, q5, ys5, zs5, t5, u5, rfl, rfl, ha5, hb5, hA5, hB5⟩
  refine ⟨rfl, rfl, Nat.zero_le _, ?_⟩
  refine g_end ?_
  refine p_weak [some 0, some 1, some 2, some 3, some 4, some 5, some 6, some 7, some 8, some 9, some 10, some 11, some 12, some 13, some 14, some 18, some 16, some 17] [] (T' := [.junk, i64 f, i64 a, .junk, u64 lv, .fptr 4 1 (fun _ => cellsM m) 0 0, .fptr 2 1 (fun _ => [encU x.st, encU x.lo]) 0 0, .s (.bool false), .fptr 4 1 (fun _ => cellsL m) 0 0, .fptr 2 1 (fun _ => [lentU x.st, lentU x.lo]) 0 0, .ptr 0 0, .ptr 3 0, .ptr 6 0, .ptr 9 0, .ptr 12 0, .ptr 15 0, .junk, .junk, .junk, .junk]) (hp' := [.cel [.vec 1 1 a0, .vec 1 2 b0], .vec 1 p0 (rowI .u64 ys0) t0, .vec 1 q0 (rowI .u64 zs0) u0, .cel [.vec 1 4 a1, .vec 1 5 b1], .vec 1 p1 (rowI .u64 ys1) t1, .vec 1 q1 (rowI .u64 zs1) u1, .cel [.vec 1 7 a2, .vec 1 8 b2], .vec 1 p2 (rowI .u64 ys2) t2, .vec 1 q2 (rowI .u64 zs2) u2, .cel [.vec 1 10 a3, .vec 1 11 b3], .vec 1 p3 (rowI .u64 ys3) t3, .vec 1 q3 (rowI .u64 zs3) u3, .cel [.vec 1 13 a4, .vec 1 14 b4], .vec 1 p4 (rowI .u64 ys4) t4, .vec 1 q4 (rowI .u64 zs4) u4, .cel [.vec 1 16 a5, .vec 1 17 b5], .vec 1 p5 (rowI .u64 ys5) t5, .vec 1 q5 (rowI .u64 zs5) u5]) (wk _ _ _ _ (blks := .cons (.cel rfl (by decide) rfl (.cons (.one (.vec rfl rfl)) (.cons (.one (.vec rfl rfl)) .nil))) (.cons bs_same (.cons bs_same (.cons (.cel rfl (by decide) rfl (.cons (.one (.vec rfl rfl)) (.cons (.one (.vec rfl rfl)) .nil))) (.cons bs_same (.cons bs_same (.cons (.cel rfl (by decide) rfl (.cons (.one (.vec rfl rfl)) (.cons (.one (.vec rfl rfl)) .nil))) (.cons bs_same (.cons bs_same (.cons (.cel rfl (by decide) rfl (.cons (.one (.vec rfl rfl)) (.cons (.one (.vec rfl rfl)) .nil))) (.cons bs_same (.cons bs_same (.cons (.cel rfl (by decide) rfl (.cons (.one (.vec rfl rfl)) (.cons (.one (.vec rfl rfl)) .nil))) (.cons bs_same (.cons bs_same (.cons (.cel rfl (by decide) rfl (.cons (.one (.vec rfl rfl)) (.cons (.one (.vec rfl rfl)) .nil))) (.cons bs_same (.cons bs_same (.nil)))))))))))))))))))) ?_
  refine s_reg (g_run 1 ?_)
  refine g_scall [] [] (args' := [lentM m, i64 f]) (hpc := []) (heightsO_ok hg.fits hg.gr f hf) ⟨rfl, rfl, rfl, .cons (.nlv rfl) (.cons (.nlv rfl) .nil), .nil⟩ ?_
  rintro v hpc ⟨n6, l6, t6, e6, g6, c6, rfl, rfl, hn6⟩
  refine ⟨rfl, rfl, Nat.zero_le _, ?_⟩
  refine g_end ?_
  refine p_weak [some 0, some 1, some 2, some 3, some 4, some 5, some 6, some 7, some 8, some 9, some 10, some 11, some 12, some 13, some 14, some 15, some 16, some 17, some 19] [] (T' := [.junk, i64 f, i64 a, .junk, u64 lv, .fptr 4 1 (fun _ => cellsM m) 0 0, .fptr 2 1 (fun _ => [encU x.st, encU x.lo]) 0 0, .s (.bool false), .fptr 4 1 (fun _ => cellsL m) 0 0, .fptr 2 1 (fun _ => [lentU x.st, lentU x.lo]) 0 0, .ptr 0 0, .ptr 3 0, .ptr 6 0, .ptr 9 0, .ptr 12 0, .ptr 15 0, .exv 1 18 n6, .junk, .junk, .junk]) (hp' := [.cel [.vec 1 1 a0, .vec 1 2 b0], .vec 1 p0 (rowI .u64 ys0) t0, .vec 1 q0 (rowI .u64 zs0) u0, .cel [.vec 1 4 a1, .vec 1 5 b1], .vec 1 p1 (rowI .u64 ys1) t1, .vec 1 q1 (rowI .u64 zs1) u1, .cel [.vec 1 7 a2, .vec 1 8 b2], .vec 1 p2 (rowI .u64 ys2) t2, .vec 1 q2 (rowI .u64 zs2) u2, .cel [.vec 1 10 a3, .vec 1 11 b3], .vec 1 p3 (rowI .u64 ys3) t3, .vec 1 q3 (rowI .u64 zs3) u3, .cel [.vec 1 13 a4, .vec 1 14 b4], .vec 1 p4 (rowI .u64 ys4) t4, .vec 1 q4 (rowI .u64 zs4) u4, .cel [.vec 1 16 a5, .vec 1 17 b5], .vec 1 p5 (rowI .u64 ys5) t5, .vec 1 q5 (rowI .u64 zs5) u5, .vec 1 n6 (rowI .i64 l6) t6]) (wk _ _ _ _ (vals := by repeat' (first | exact VSubs.nil | apply VSubs.cons | exact VSub.one (VSub1.junk _) | exact VSub.nlv rfl | exact VSub.one (VSub1.ptr rfl) | exact VSub.one (VSub1.exv rfl rfl))) (blks := .cons (.cel rfl (by decide) rfl (.cons (.one (.vec rfl rfl)) (.cons (.one (.vec rfl rfl)) .nil))) (.cons bs_same (.cons bs_same (.cons (.cel rfl (by decide) rfl (.cons (.one (.vec rfl rfl)) (.cons (.one (.vec rfl rfl)) .nil))) (.cons bs_same (.cons bs_same (.cons (.cel rfl (by decide) rfl (.cons (.one (.vec rfl rfl)) (.cons (.one (.vec rfl rfl)) .nil))) (.cons bs_same (.cons bs_same (.cons (.cel rfl (by decide) rfl (.cons (.one (.vec rfl rfl)) (.cons (.one (.vec rfl rfl)) .nil))) (.cons bs_same (.cons bs_same (.cons (.cel rfl (by decide) rfl (.cons (.one (.vec rfl rfl)) (.cons (.one (.vec rfl rfl)) .nil))) (.cons bs_same (.cons bs_same (.cons (.cel rfl (by decide) rfl (.cons (.one (.vec rfl rfl)) (.cons (.one (.vec rfl rfl)) .nil))) (.cons bs_same (.cons bs_same (.cons bs_same (.nil))))))))))))))))))))) ?_
  refine s_reg (g_run 1 ?_)
  refine g_scall [] [] (args' := [lentM m, i64 f]) (hpc := []) (heightsO_ok hg.fits hg.gr f hf) ⟨rfl, rfl, rfl, .cons (.nlv rfl) (.cons (.nlv rfl) .nil), .nil⟩ ?_
  rintro v hpc ⟨n7, l7, t7, e7, g7, c7, rfl, rfl, hn7⟩
  refine ⟨rfl, rfl, Nat.zero_le _, ?_⟩
  refine g_end ?_
  refine p_weak [some 0, some 1, some 2, some 3, some 4, some 5, some 6, some 7, some 8, some 9, some 10, some 11, some 12, some 13, some 14, some 15, some 16, some 17, some 18, some 20] [] (T' := [.junk, i64 f, i64 a, .junk, u64 lv, .fptr 4 1 (fun _ => cellsM m) 0 0, .fptr 2 1 (fun _ => [encU x.st, encU x.lo]) 0 0, .s (.bool false), .fptr 4 1 (fun _ => cellsL m) 0 0, .fptr 2 1 (fun _ => [lentU x.st, lentU x.lo]) 0 0, .ptr 0 0, .ptr 3 0, .ptr 6 0, .ptr 9 0, .ptr 12 0, .ptr 15 0, .exv 1 18 n6, .exv 1 19 n7, .junk, .junk]) (hp' := [.cel [.vec 1 1 a0, .vec 1 2 b0], .vec 1 p0 (rowI .u64 ys0) t0, .vec 1 q0 (rowI .u64 zs0) u0, .cel [.vec 1 4 a1, .vec 1 5 b1], .vec 1 p1 (rowI .u64 ys1) t1, .vec 1 q1 (rowI .u64 zs1) u1, .cel [.vec 1 7 a2, .vec 1 8 b2], .vec 1 p2 (rowI .u64 ys2) t2, .vec 1 q2 (rowI .u64 zs2) u2, .cel [.vec 1 10 a3, .vec 1 11 b3], .vec 1 p3 (rowI .u64 ys3) t3, .vec 1 q3 (rowI .u64 zs3) u3, .cel [.vec 1 13 a4, .vec 1 14 b4], .vec 1 p4 (rowI .u64 ys4) t4, .vec 1 q4 (rowI .u64 zs4) u4, .cel [.vec 1 16 a5, .vec 1 17 b5], .vec 1 p5 (rowI .u64 ys5) t5, .vec 1 q5 (rowI .u64 zs5) u5, .vec 1 n6 (rowI .i64 l6) t6, .vec 1 n7 (rowI .i64 l7) t7]) (wk _ _ _ _ (vals := by repeat' (first | exact VSubs.nil | apply VSubs.cons | exact VSub.one (VSub1.junk _) | exact VSub.nlv rfl | exact VSub.one (VSub1.ptr rfl) | exact VSub.one (VSub1.exv rfl rfl))) (blks := .cons (.cel rfl (by decide) rfl (.cons (.one (.vec rfl rfl)) (.cons (.one (.vec rfl rfl)) .nil))) (.cons bs_same (.cons bs_same (.cons (.cel rfl (by decide) rfl (.cons (.one (.vec rfl rfl)) (.cons (.one (.vec rfl rfl)) .nil))) (.cons bs_same (.cons bs_same (.cons (.cel rfl (by decide) rfl (.cons (.one (.vec rfl rfl)) (.cons (.one (.vec rfl rfl)) .nil))) (.cons bs_same (.cons bs_same (.cons (.cel rfl (by decide) rfl (.cons (.one (.vec rfl rfl)) (.cons (.one (.vec rfl rfl)) .nil))) (.cons bs_same (.cons bs_same (.cons (.cel rfl (by decide) rfl (.cons (.one (.vec rfl rfl)) (.cons (.one (.vec rfl rfl)) .nil))) (.cons bs_same (.cons bs_same (.cons (.cel rfl (by decide) rfl (.cons (.one (.vec rfl rfl)) (.cons (.one (.vec rfl rfl)) .nil))) (.cons bs_same (.cons bs_same (.cons bs_same (.cons bs_same (.nil)))))))))))))))))))))) ?_
  refine s_reg (g_run 20 ?_)
  refine tab_mkcel rfl rfl rfl ?_
  refine g_end ?_
  have hT : TabW [.cel [.vec 1 1 a0, .vec 1 2 b0, .vec 1 3 a1, .vec 1 4 b1, .vec 1 5 b2, .vec 1 6 b3, .vec 1 7 a4, .vec 1 8 b4, .vec 1 9 a5, .vec 1 10 b5], .vec 1 p0 (rowI .u64 ys0) t0, .vec 1 q0 (rowI .u64 zs0) u0, .vec 1 p1 (rowI .u64 ys1) t1, .vec 1 q1 (rowI .u64 zs1) u1, .vec 1 q2 (rowI .u64 zs2) u2, .vec 1 q3 (rowI .u64 zs3) u3, .vec 1 p4 (rowI .u64 ys4) t4, .vec 1 q4 (rowI .u64 zs4) u4, .vec 1 p5 (rowI .u64 ys5) t5, .vec 1 q5 (rowI .u64 zs5) u5] 0 10 (fun r => [a0, b0, a1, b1, b2, b3, a4, b4, a5, b5].getD r 0) (fun _ _ => False) := by
    refine ⟨_, fun r => r + 1, rfl, rfl, fun r hr => ?_, fun r r' _ _ e => by simpa using e⟩
    match r, hr with
    | 0, _ => exact ⟨hA0, rfl, p0, _, t0, rfl, ha0, fun _ _ => rfl, fun _ _ h => h.elim⟩
    | 1, _ => exact ⟨hB0, rfl, q0, _, u0, rfl, hb0, fun _ _ => rfl, fun _ _ h => h.elim⟩
    | 2, _ => exact ⟨hA1, rfl, p1, _, t1, rfl, ha1, fun _ _ => rfl, fun _ _ h => h.elim⟩
    | 3, _ => exact ⟨hB1, rfl, q1, _, u1, rfl, hb1, fun _ _ => rfl, fun _ _ h => h.elim⟩
    | 4, _ => exact ⟨hB2, rfl, q2, _, u2, rfl, hb2, fun _ _ => rfl, fun _ _ h => h.elim⟩
    | 5, _ => exact ⟨hB3, rfl, q3, _, u3, rfl, hb3, fun _ _ => rfl, fun _ _ h => h.elim⟩
    | 6, _ => exact ⟨hA4, rfl, p4, _, t4, rfl, ha4, fun _ _ => rfl, fun _ _ h => h.elim⟩
    | 7, _ => exact ⟨hB4, rfl, q4, _, u4, rfl, hb4, fun _ _ => rfl, fun _ _ h => h.elim⟩
    | 8, _ => exact ⟨hA5, rfl, p5, _, t5, rfl, ha5, fun _ _ => rfl, fun _ _ h => h.elim⟩
    | 9, _ => exact ⟨hB5, rfl, q5, _, u5, rfl, hb5, fun _ _ => rfl, fun _ _ h => h.elim⟩
    | r + 10, h => exact absurd h (by omega)
  refine s_reg ?_
  refine g_scall [20, 1, 2, 4, 5, 8, 11, 13, 14, 16, 17] [] (args' := [.vec 1 0 10]) (hpc := [.cel [.vec 1 1 a0, .vec 1 2 b0, .vec 1 3 a1, .vec 1 4 b1, .vec 1 5 b2, .vec 1 6 b3, .vec 1 7 a4, .vec 1 8 b4, .vec 1 9 a5, .vec 1 10 b5], .vec 1 p0 (rowI .u64 ys0) t0, .vec 1 q0 (rowI .u64 zs0) u0, .vec 1 p1 (rowI .u64 ys1) t1, .vec 1 q1 (rowI .u64 zs1) u1, .vec 1 q2 (rowI .u64 zs2) u2, .vec 1 q3 (rowI .u64 zs3) u3, .vec 1 p4 (rowI .u64 ys4) t4, .vec 1 q4 (rowI .u64 zs4) u4, .vec 1 p5 (rowI .u64 ys5) t5, .vec 1 q5 (rowI .u64 zs5) u5]) (call_dead (n := 11) (P := fun v => v = .s (.bool true)) (apl_ok (m := 10) (by decide) hT) (fun v h => by rw [h]; rfl) (fun b hb => by
    match b, hb with
    | 0, _ => exact fun h => nomatch h
    | 1, _ => exact fun h => nomatch h
    | 2, _ => exact fun h => nomatch h
    | 3, _ => exact fun h => nomatch h
    | 4, _ => exact fun h => nomatch h
    | 5, _ => exact fun h => nomatch h
    | 6, _ => exact fun h => nomatch h
    | 7, _ => exact fun h => nomatch h
    | 8, _ => exact fun h => nomatch h
    | 9, _ => exact fun h => nomatch h
    | 10, _ => exact fun h => nomatch h
    | b + 11, h => exact absurd h (by omega))) ⟨rfl, rfl, rfl, .cons (.one (.vec rfl rfl)) .nil, .cons (.cel rfl (by decide) rfl (.cons (.one (.vec rfl rfl)) (.cons (.one (.vec rfl rfl)) (.cons (.one (.vec rfl rfl)) (.cons (.one (.vec rfl rfl)) (.cons (.one (.vec rfl rfl)) (.cons (.one (.vec rfl rfl)) (.cons (.one (.vec rfl rfl)) (.cons (.one (.vec rfl rfl)) (.cons (.one (.vec rfl rfl)) (.cons (.one (.vec rfl rfl)) (.nil)))))))))))) (.cons bs_same (.cons bs_same (.cons bs_same (.cons bs_same (.cons bs_same (.cons bs_same (.cons bs_same (.cons bs_same (.cons bs_same (.cons bs_same (.nil)))))))))))⟩ ?_
  rintro v hpc' ⟨rfl, rfl⟩
  refine ⟨rfl, rfl, Nat.le_refl _, ?_⟩
  refine g_run 2 ?_
  refine tab_mkcel rfl rfl rfl ?_
  have hT2 : TabI [.cel [.exv 1 1 n6, .exv 1 2 n7], .vec 1 n6 (rowI .i64 l6) t6, .vec 1 n7 (rowI .i64 l7) t7] 0 2 3 (fun r => if r = 0 then n6 else n7) (fun _ _ => False) := by
    refine ⟨_, rfl, rfl, fun r => r + 1, fun r hr => ?_, fun r s _ _ _ _ e => by simpa using e⟩
    match r, hr with
    | 0, _ => exact ⟨hn6, .inr ⟨rfl, by decide, _, t6, rfl, fun _ _ => rfl, fun _ _ h => h.elim⟩⟩
    | 1, _ => exact ⟨hn7, .inr ⟨rfl, by decide, _, t7, rfl, fun _ _ => rfl, fun _ _ h => h.elim⟩⟩
    | r + 2, h => exact absurd h (by simp)
  refine g_scall [21, 18, 19] [] (args' := [.vec 1 0 2]) (hpc := [.cel [.exv 1 1 n6, .exv 1 2 n7], .vec 1 n6 (rowI .i64 l6) t6, .vec 1 n7 (rowI .i64 l7) t7]) (call_dead (n := 3) (P := fun v => v = .s (.bool true)) (apart_ok (m := 2) (by decide) hT2) (fun v h => by rw [h]; rfl) (fun b hb => by
    match b, hb with
    | 0, _ => exact fun h => nomatch h
    | 1, _ => exact fun h => nomatch h
    | 2, _ => exact fun h => nomatch h
    | b + 3, h => exact absurd h (by omega))) ⟨rfl, rfl, rfl, .cons (.one (.vec rfl rfl)) .nil, .cons (.cel rfl (by decide) rfl (.cons (.one (.exv rfl rfl)) (.cons (.one (.exv rfl rfl)) .nil))) (.cons bs_same (.cons bs_same .nil))⟩ ?_
  rintro v hpc' ⟨rfl, rfl⟩
  refine ⟨rfl, rfl, Nat.le_refl _, ?_⟩
  refine g_run 3 ?_
  refine g_call (keptModule_ok hg.fits) ?_
  rintro v rfl
  refine ⟨rfl, ?_⟩
  refine g_run 3 ?_
  refine g_call (keptFrame_ok hx) ?_
  rintro v rfl
  refine ⟨rfl, ?_⟩
  refine g_end ?_
  exact p_ret fin_v
end Go.Proofs.Ytollibkfagjnaaa.Shape.Kit
