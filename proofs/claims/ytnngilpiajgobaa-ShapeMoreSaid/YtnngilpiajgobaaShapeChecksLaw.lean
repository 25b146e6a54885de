/- The shape laws: the law on checks. -/
import Derived.Test.YtnngilpiajgobaaShapeCheck
set_option linter.unusedVariables false
set_option linter.unusedSimpArgs false
set_option maxRecDepth 10000
namespace Go.Proofs.Ytnngilpiajgobaa.Shape
open Go.Proofs.Ytnngilpiajgobaa.AM
theorem triple_eq (t t1 t2 t3 : TypeId) (k1 k2 k3 : IntKind) (fs : Array Field) (hu : Try.prog.underlying t = some (.struct fs)) (f1 f2 f3 : Field) (hfs : fs = #[f1, f2, f3]) (n1 : f1.name ≠ "_") (n2 : f2.name ≠ "_") (n3 : f3.name ≠ "_") (hf1 : f1.type = t1 ∧ f1.offset = 0) (hf2 : f2.type = t2 ∧ f2.offset = 1) (hf3 : f3.type = t3 ∧ f3.offset = 2)
    (hk1 : Try.prog.underlying t1 = some (.int k1)) (hk2 : Try.prog.underlying t2 = some (.int k2)) (hk3 : Try.prog.underlying t3 = some (.int k3)) (h2 : Try.prog.stoodInHeld t = false) (a b c : Int) :
    pureRun Try.prog (Op.equal t (.agg #[.int k1 a, .int k2 b, .int k3 c]) (.agg #[.int k1 a, .int k2 b, .int k3 c])) = some true := by
  have u := pureRun_under _ _ _ hu
  subst hfs
  simp only [Op.equal]
  rw [show Op.maxDepth = 9998 + 1 + 1 from rfl, Op.equalIn]
  simp only [pureRun_bind, pureRun_prog, pureRun_pure, h2, u, Option.bind_some, Bool.false_eq_true, if_false, List.forIn_toArray, List.forIn_cons, List.forIn_nil, hf1.1, hf1.2, hf2.1, hf2.2, hf3.1, hf3.2, ne_eq, n1, n2, n3, not_false_eq_true, if_true, eq_i64 _ _ hk1, eq_i64 _ _ hk2, eq_i64 _ _ hk3, part_int _ _ hk1 #[.int k1 a, .int k2 b, .int k3 c] 0 (.int k1 a) rfl, part_int _ _ hk2 #[.int k1 a, .int k2 b, .int k3 c] 1 (.int k2 b) rfl, part_int _ _ hk3 #[.int k1 a, .int k2 b, .int k3 c] 2 (.int k3 c) rfl, beq_self_eq_true, Bool.not_true]
theorem fault_eq (a b c : Int) (x y : Operand) : aflat Try.prog (.bin .eql 43 x y) [.agg #[.int .i64 a, .int .i64 b, .int .i64 c], .agg #[.int .i64 a, .int .i64 b, .int .i64 c]] = some (.bool true) := by
  have he := triple_eq 43 36 3 3 .i64 .i64 .i64 _ Try.underlying43 _ _ _ rfl (by decide) (by decide) (by decide) ⟨rfl, rfl⟩ ⟨rfl, rfl⟩ ⟨rfl, rfl⟩ Try.underlying36 Try.underlying3 Try.underlying3 (by kernel_rfl) a b c
  have h1 : Try.prog.eqGuardType Try.prog.depth 43 = false := by kernel_rfl
  simp only [aflat]
  rw [if_pos (by simp [flat, flat1])]
  simp only [flatSem, eqGuard, binOp]
  simp only [pureRun_bind, pureRun_prog, pureRun_pure, h1, he, Option.bind_some, Bool.not_true, Bool.false_eq_true, if_false, Bool.not_false, if_true]
  rfl
set_option maxHeartbeats 4000000 in
theorem checks_ok {v : Value} {H : AH TV} {m : Md} (h : MdAt H v m) (hf : MdFits m) : ARuns E (.call 5 [v] H) fun r => r.v = .bool true := by
  have hm := h
  obtain ⟨vg, va, vc, vf, rfl, h1, h2, h3, h4⟩ := h
  obtain ⟨ag, cg, rfl⟩ := lenU h1
  obtain ⟨aa, ca, rfl⟩ := lenSA h2
  obtain ⟨ac, cc, rfl⟩ := lenU h3
  obtain ⟨af, cf, rfl⟩ := h4.len
  obtain ⟨n, hn⟩ : ∃ n, Vec.size H = n := ⟨_, rfl⟩
  refine runs_call rfl rfl ?_
  refine seq_region ?_
  refine ops_cons rfl (does_box (cs := [.slice ag m.gs.length cg, .slice aa m.arrays.length ca, .slice ac m.chans.length cc, .slice af m.fns.length cf]) rfl rfl hn fun H1 z1 k1 g1 => ops_nil ⟨_, rfl, ?_⟩)
  refine seq_region ?_
  refine ops_cons rfl (does_load (v := .agg #[.slice ag m.gs.length cg, .slice aa m.arrays.length ca, .slice ac m.chans.length cc, .slice af m.fns.length cf]) rfl g1 rfl ?_)
  refine ops_cons rfl (does_call rfl rfl ((lentModule_ok (hm.ext k1) hf).mono ?_))
  rintro ⟨e3, T3, H3, ds3, v3⟩ ⟨bg, ba, bc, bf, es, lm, k3⟩
  simp only at lm k3
  obtain rfl := lm.val
  obtain ⟨n3, hn3⟩ : ∃ n, Vec.size H3 = n := ⟨_, rfl⟩
  refine ops_cons rfl (does_alloc hn3 fun H4 z4 (k4 : Keeps H3 H4) g4 => ?_)
  refine ops_cons rfl (does_store rfl rfl rfl rfl rfl g4 (Nat.zero_le _) (show 4 ≤ 4 by omega) (ops_nil ⟨_, rfl, ?_⟩))
  obtain ⟨H5, hH5⟩ : ∃ H5, Vec.set H4 n3 (.arr [lentV bg m.gs, lentV' ba m.arrays.length, lentV bc m.chans, lentV' bf m.fns.length] true 0) = H5 := ⟨_, rfl⟩
  have g5 : Vec.get H5 n3 = some (.arr [lentV bg m.gs, lentV' ba m.arrays.length, lentV bc m.chans, lentV' bf m.fns.length] true 0) := by rw [← hH5]; exact get_set_same (by omega)
  have k35 : Keeps H3 H5 := by rw [← hH5]; exact k4.set _ (by omega)
  show ARuns E (.code false _ _ (Vec.set H4 n3 (.arr [lentV bg m.gs, lentV' ba m.arrays.length, lentV bc m.chans, lentV' bf m.fns.length] true 0)) []) _
  rw [hH5]
  clear hH5
  have k25 := k3.trans k35
  have k05 := k1.trans k25
  have gm := k25.some g1
  have lm5 := lm.ext k35
  have vm : ∀ (a1 a2 a3 a4 : Option Addr) (n1 n2 n3 n4 c1 c2 c3 c4 : Nat), veq (.agg #[.slice a1 n1 c1, .slice a2 n2 c2, .slice a3 n3 c3, .slice a4 n4 c4]) (.agg #[.slice a1 n1 c1, .slice a2 n2 c2, .slice a3 n3 c3, .slice a4 n4 c4]) = true := fun a1 a2 a3 a4 n1 n2 n3 n4 c1 c2 c3 c4 => by simp [veq, veqs, veq1]
  refine seq_draw ?_
  refine draws_cons rfl (does_load (v := .agg #[lentV bg m.gs, lentV' ba m.arrays.length, lentV bc m.chans, lentV' bf m.fns.length]) rfl g5 rfl ⟨rfl, Nat.le_refl _, ?_⟩)
  refine draws_cons rfl (does_call rfl rfl ((scheck_ok lm5.md hf).mono ?_))
  rintro ⟨e6, T6, H6, ds6, v6⟩ ⟨x1, x2, x3, rfl, hc1, k6⟩
  simp only at k6
  refine ⟨rfl, k6.size, ?_⟩
  refine draws_cons rfl (does_load (v := .agg #[.slice ag m.gs.length cg, .slice aa m.arrays.length ca, .slice ac m.chans.length cc, .slice af m.fns.length cf]) rfl (k6.some gm) rfl ⟨loadOk_of rfl (vm _ _ _ _ _ _ _ _ _ _ _ _) ?_, Nat.le_refl _, ?_⟩)
  · intro K hK
    have : K = H5 := by simpa [isEff] using hK
    subst this
    exact aload_of gm rfl
  refine draws_cons rfl (does_call rfl rfl ((rcheck_ok (hm.ext (k05.trans k6)) hf).mono ?_))
  rintro ⟨e7, T7, H7, ds7, v7⟩ ⟨y1, y2, y3, rfl, hc2, k7⟩
  simp only at k7
  obtain ⟨rfl, rfl, rfl⟩ := isCheck_one hc1 hc2
  refine ⟨rfl, k7.size, ?_⟩
  have k57 := k6.trans k7
  refine draws_cons rfl (does_flat rfl (fault_eq _ _ _ _ _) ⟨rfl, Nat.le_refl _, ?_⟩)
  refine draws_cons rfl (does_load (v := .agg #[lentV bg m.gs, lentV' ba m.arrays.length, lentV bc m.chans, lentV' bf m.fns.length]) rfl (k57.some g5) rfl ⟨rfl, Nat.le_refl _, ?_⟩)
  refine draws_cons rfl (does_load (v := .agg #[.slice ag m.gs.length cg, .slice aa m.arrays.length ca, .slice ac m.chans.length cc, .slice af m.fns.length cf]) rfl (k57.some gm) rfl ⟨rfl, Nat.le_refl _, ?_⟩)
  refine draws_cons rfl (does_call rfl rfl ((keptModule_ok (lm5.ext k57) (hm.ext (k05.trans k57)) hf).mono ?_))
  rintro ⟨e10, T10, H10, ds10, v10⟩ ⟨rfl, k10⟩
  refine ⟨rfl, k10.size, ?_⟩
  refine draws_cons rfl (does_val (v := .bool true) rfl ⟨rfl, Nat.le_refl _, draws_nil ⟨_, rfl, ?_⟩⟩)
  exact runs_ret ⟨.inr rfl, _, _, rfl, rfl, rfl⟩
end Go.Proofs.Ytnngilpiajgobaa.Shape
