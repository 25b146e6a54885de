/- The shape laws: the law on instructions. -/
import Derived.Test.YtnngilpiajgobaaShapeInstr
set_option linter.unusedVariables false
set_option linter.unusedSimpArgs false
set_option maxRecDepth 10000
namespace Go.Proofs.Ytnngilpiajgobaa.Shape
open Go.Proofs.Ytnngilpiajgobaa.AM
set_option maxHeartbeats 4000000 in
theorem instrs_ok {v : Value} {H : AH TV} {m : Md} {f op a : Int} (h : MdAt H v m) (hf : MdFits m) : ARuns E (.call 4 [v, .int .i64 f, .agg #[.int .i64 op, .int .i64 a]] H) fun r => r.v = .bool true := by
  have hm := h
  obtain ⟨vg, va, vc, vf, rfl, h1, h2, h3, h4⟩ := h
  obtain ⟨ag, cg, rfl⟩ := lenU h1
  obtain ⟨aa, ca, rfl⟩ := lenSA h2
  obtain ⟨ac, cc, rfl⟩ := lenU h3
  obtain ⟨af, cf, rfl⟩ := h4.len
  obtain ⟨n, hn⟩ : ∃ n, Vec.size H = n := ⟨_, rfl⟩
  refine runs_call rfl rfl ?_
  refine seq_region ?_
  refine ops_cons rfl (does_box (cs := [.slice ag m.gs.length cg, .slice aa m.arrays.length ca, .slice ac m.chans.length cc, .slice af m.fns.length cf]) rfl rfl hn fun H1 z1 k1 g0 => ?_)
  refine ops_cons rfl (does_box (cs := [.int .i64 op, .int .i64 a]) rfl rfl z1 fun H2 z2 k2 gi => ops_nil ⟨_, rfl, ?_⟩)
  have g1 := k2.some g0
  have k := k1.trans k2
  refine seq_region ?_
  refine ops_cons rfl (does_load (v := .agg #[.slice ag m.gs.length cg, .slice aa m.arrays.length ca, .slice ac m.chans.length cc, .slice af m.fns.length cf]) rfl g1 rfl ?_)
  refine ops_cons rfl (does_call rfl rfl ((lentModule_ok (hm.ext k) hf).mono ?_))
  rintro ⟨e3, T3, H3, ds3, v3⟩ ⟨bg, ba, bc, bf, es, lm, k3⟩
  simp only at lm k3
  obtain rfl := lm.val
  obtain ⟨n3, hn3⟩ : ∃ n, Vec.size H3 = n := ⟨_, rfl⟩
  refine ops_cons rfl (does_alloc hn3 fun H4 z4 (k4 : Keeps H3 H4) g4 => ?_)
  refine ops_cons rfl (does_store rfl rfl rfl rfl rfl g4 (Nat.zero_le _) (show 4 ≤ 4 by omega) (ops_nil ⟨_, rfl, ?_⟩))
  obtain ⟨H5, hH5⟩ : ∃ H5, Vec.set H4 n3 (.arr [lentV bg m.gs, lentV' ba m.arrays.length, lentV bc m.chans, lentV' bf m.fns.length] true 0) = H5 := ⟨_, rfl⟩
  have g5 : Vec.get H5 n3 = some (.arr [lentV bg m.gs, lentV' ba m.arrays.length, lentV bc m.chans, lentV' bf m.fns.length] true 0) := by rw [← hH5]; exact get_set_same (by omega)
  have k35 : Keeps H3 H5 := by rw [← hH5]; exact k4.set _ (by omega)
  show ARuns E (.code false _ _ (Vec.set H4 n3 (.arr [lentV bg m.gs, lentV' ba m.arrays.length, lentV bc m.chans, lentV' bf m.fns.length] true 0)) []) _
  rw [hH5]
  clear hH5
  have k25 := k3.trans k35
  have k05 := k.trans k25
  have gm := k25.some g1
  have gi5 := k25.some gi
  have lm5 := lm.ext k35
  have vm : ∀ (a1 a2 a3 a4 : Option Addr) (n1 n2 n3 n4 c1 c2 c3 c4 : Nat), veq (.agg #[.slice a1 n1 c1, .slice a2 n2 c2, .slice a3 n3 c3, .slice a4 n4 c4]) (.agg #[.slice a1 n1 c1, .slice a2 n2 c2, .slice a3 n3 c3, .slice a4 n4 c4]) = true := fun a1 a2 a3 a4 n1 n2 n3 n4 c1 c2 c3 c4 => by simp [veq, veqs, veq1]
  have vi : veq (.agg #[.int .i64 op, .int .i64 a]) (.agg #[.int .i64 op, .int .i64 a]) = true := by simp [veq, veqs, veq1]
  refine seq_draw ?_
  refine draws_cons rfl (does_load (v := .agg #[lentV bg m.gs, lentV' ba m.arrays.length, lentV bc m.chans, lentV' bf m.fns.length]) rfl g5 rfl ⟨rfl, Nat.le_refl _, ?_⟩)
  refine draws_cons rfl (does_load (v := .agg #[.int .i64 op, .int .i64 a]) rfl gi5 rfl ⟨rfl, Nat.le_refl _, ?_⟩)
  refine draws_cons rfl (does_call rfl rfl ((sinstr_ok lm5.md hf).mono ?_))
  rintro ⟨e6, T6, H6, ds6, v6⟩ ⟨rfl, k6⟩
  simp only at k6
  refine ⟨rfl, k6.size, ?_⟩
  refine draws_cons rfl (does_load (v := .agg #[.slice ag m.gs.length cg, .slice aa m.arrays.length ca, .slice ac m.chans.length cc, .slice af m.fns.length cf]) rfl (k6.some gm) rfl ⟨loadOk_of rfl (vm _ _ _ _ _ _ _ _ _ _ _ _) ?_, Nat.le_refl _, ?_⟩)
  · intro K hK
    have : K = H5 := by simpa [isEff] using hK
    subst this
    exact aload_of gm rfl
  refine draws_cons rfl (does_load (v := .agg #[.int .i64 op, .int .i64 a]) rfl (k6.some gi5) rfl ⟨loadOk_of rfl vi ?_, Nat.le_refl _, ?_⟩)
  · intro K hK
    have : K = H5 := by simpa [isEff] using hK
    subst this
    exact aload_of gi5 rfl
  refine draws_cons rfl (does_call rfl rfl ((rinstr_ok (hm.ext (k05.trans k6)) hf).mono ?_))
  rintro ⟨e7, T7, H7, ds7, v7⟩ ⟨rfl, k7⟩
  simp only at k7
  refine ⟨rfl, k7.size, ?_⟩
  have k57 := k6.trans k7
  refine draws_cons rfl (does_val (v := .bool true) (by show some (Value.bool (instrSpec m f op a == instrSpec m f op a), _) = _; simp) ⟨rfl, Nat.le_refl _, ?_⟩)
  refine draws_cons rfl (does_load (v := .agg #[lentV bg m.gs, lentV' ba m.arrays.length, lentV bc m.chans, lentV' bf m.fns.length]) rfl (k57.some g5) rfl ⟨rfl, Nat.le_refl _, ?_⟩)
  refine draws_cons rfl (does_val rfl ⟨rfl, Nat.le_refl _, ?_⟩)
  refine draws_cons rfl (does_call rfl rfl ((locals_ok (lm5.ext k57).md hf).mono ?_))
  rintro ⟨e8, T8, H8, ds8, v8⟩ ⟨rfl, k8⟩
  simp only at k8
  refine ⟨rfl, k8.size, ?_⟩
  have k58 := k57.trans k8
  refine draws_cons rfl (does_load (v := .agg #[.slice ag m.gs.length cg, .slice aa m.arrays.length ca, .slice ac m.chans.length cc, .slice af m.fns.length cf]) rfl (k58.some gm) rfl ⟨loadOk_of rfl (vm _ _ _ _ _ _ _ _ _ _ _ _) ?_, Nat.le_refl _, ?_⟩)
  · intro K hK
    have : K = H7 := by simpa [isEff] using hK
    subst this
    exact aload_of (k57.some gm) rfl
  refine draws_cons rfl (does_val rfl ⟨rfl, Nat.le_refl _, ?_⟩)
  refine draws_cons rfl (does_call rfl rfl ((rlocals_ok (hm.ext (k05.trans k58)) hf).mono ?_))
  rintro ⟨e9, T9, H9, ds9, v9⟩ ⟨rfl, k9⟩
  simp only at k9
  refine ⟨rfl, k9.size, ?_⟩
  have k59 := k58.trans k9
  refine draws_cons rfl (does_val (v := .bool true) (by show some (Value.bool (locSpec m f == locSpec m f), _) = _; simp) ⟨rfl, Nat.le_refl _, ?_⟩)
  refine draws_cons rfl (does_val (v := .bool true) rfl ⟨rfl, Nat.le_refl _, ?_⟩)
  refine draws_cons rfl (does_load (v := .agg #[lentV bg m.gs, lentV' ba m.arrays.length, lentV bc m.chans, lentV' bf m.fns.length]) rfl (k59.some g5) rfl ⟨rfl, Nat.le_refl _, ?_⟩)
  refine draws_cons rfl (does_load (v := .agg #[.slice ag m.gs.length cg, .slice aa m.arrays.length ca, .slice ac m.chans.length cc, .slice af m.fns.length cf]) rfl (k59.some gm) rfl ⟨rfl, Nat.le_refl _, ?_⟩)
  refine draws_cons rfl (does_call rfl rfl ((keptModule_ok (lm5.ext k59) (hm.ext (k05.trans k59)) hf).mono ?_))
  rintro ⟨e10, T10, H10, ds10, v10⟩ ⟨rfl, k10⟩
  refine ⟨rfl, k10.size, ?_⟩
  refine draws_cons rfl (does_val (v := .bool true) rfl ⟨rfl, Nat.le_refl _, draws_nil ⟨_, rfl, ?_⟩⟩)
  exact runs_ret ⟨.inr rfl, _, _, rfl, rfl, rfl⟩
end Go.Proofs.Ytnngilpiajgobaa.Shape
