import Derived.Test.YtggaimcopbjdiaaRows
import Derived.Test.YtggaimcopbjdiaaRegOpen
import Derived.Test.YtggaimcopbjdiaaChV
import Derived.WalkKit
import Derived.ProofKit
import Derived.OpenShut
import Derived.ShutString
import Derived.ChangeOld
import Derived.Below
import Derived.Carry
import Derived.SizedLaws
set_option linter.unusedVariables false
namespace Go.Proofs.Ytggaimcopbjdiaa.chartPaths
open Go.ChangeShapes Go.WideShapes Go.ChangeAt Go.RowKit
theorem own : ownKnob Try.prog.godebug = none := by kernel_rfl
theorem laidOut : laidOutB Try.prog = true := by kernel_rfl
open Go.Proofs.Ytggaimcopbjdiaa.AM (Trd tr_struct tr_int VRel VRels ReadOnly readOnly_emp now_none noRho allOf acall_of_runs calls_of Now Rho AH TV)
open Go.Proofs.Ytggaimcopbjdiaa.Graph
set_option maxRecDepth 100000 in
theorem lifted (os : Os) (started : os.Started) (H : Type) (enc : TypeId × Value → H) :
  ReturnsInHanded {} Try.checked os 4 .any (Rows.chartPathsSpec.pre6 enc Try.prog Try.f4 Rows.chartPathsRow.domain false) (Rows.chartPathsSpec.post enc Try.prog Try.f4 false true false false) := by
 refine returnsInHanded_of_change_sized (C := Try.checked) own started (by kernel_rfl) Try.func4
  (ChangeSpec.witness6 (enc := enc) (C := Try.checked) false ⟨#[], #[.agg #[.int .u64 0, .slice none 0 0, .slice none 0 0, .int .i64 0, .int .i64 0, .slice none 0 0], .int .i64 0, .int .i64 0], []⟩ 8 (by kernel_rfl) (by kernel_rfl) (by kernel_rfl) (by kernel_rfl)) ?_
 intro W base args ds gs before hval0 hW hcnd hsz0 _
 have hsz : (DataW.weightsEach Try.prog (Try.f4.params.toList ++ Rows.chartPathsSpec.plain.varTypes Try.prog) (ds ++ gs)).all (· ≤ reachBytes) = true := hsz0
 have hval : ∀ (j : Nat) t v, Try.f4.params[j]? = some t → args[j]? = some v → Value.okWide Try.prog W .any base t v := hval0
 have hW' := hW
 obtain ⟨p, q, hA0, hV, rfl, hfz, hnd⟩ := hW
 have hA : DataW.TrodAll enc Try.prog W 0 (fun _ => true) true Try.f4.params.toList args.toList ds p := hA0
 rw [Try.params4] at hA hval hsz
 obtain ⟨v0, vs0, d0, ds0, p0, q0, hargs, rfl, rfl, h0, r0⟩ := trodAll_cons hA
 obtain ⟨v1, vs1, d1, ds1, p1, q1, rfl, rfl, rfl, h1, r1⟩ := trodAll_cons r0
 obtain ⟨v2, vs2, d2, ds2, p2, q2, rfl, rfl, rfl, h2, r2⟩ := trodAll_cons r1
 obtain ⟨rfl, rfl, rfl⟩ := trodAll_nil r2
 obtain rfl : args = #[v0, v1, v2] := by cases args; simp_all
 obtain ⟨rfl, rfl⟩ := trodVars_none hV
 have k0 := h0
 have lt0 : ∀ x ∈ p0, x.block < W.heap.size := by obtain ⟨m, hm⟩ := k0; exact DataW.trod_lt m _ _ _ hm
 have hz0 : ∀ n ∈ d0.weights Try.prog 27, n ≤ reachBytes := fun n hn => by
  have := List.all_eq_true.1 hsz n (DataW.weights_mem_each (j := 0) rfl rfl n hn)
  simpa using this
 obtain ⟨cs0, rfl, _⟩ := okWide_struct Try.underlying27 (hval 0 27 v0 rfl rfl)
 obtain ⟨m0, fit0, pl0⟩ := pl_fn (show Trd enc Try.prog W 27 cs0.toList d0 from (by obtain ⟨fuel, hf⟩ := h0; exact ⟨fuel, p0, hf⟩)) hz0
 obtain ⟨a1, rfl, rfl, rfl, w1⟩ := open_int Try.underlying3 (hval 1 3 v1 rfl rfl) h1
 obtain ⟨a2, rfl, rfl, rfl, w2⟩ := open_int Try.underlying3 (hval 2 3 v2 rfl rfl) h2
 clear hA0 hval0 hsz0 hsz
 have hn0 : Now Try.prog (allOf W) W noRho (AM.Vec.emp : AH TV) W := now_none _ _ _ _ fun _ _ h => h
 obtain ⟨H0, ρ0, acs0, keep0, ro0, le0, n0, rel0, md0⟩ := pl0 (AM.Vec.emp : AH TV) noRho readOnly_emp hn0
 obtain ⟨N, v, H9, hc, rfl⟩ := law_run (H := H0) (avs := [.agg acs0.toArray, .int .i64 a1, .int .i64 a2]) (.cons md0.rel (.cons (.fr (.s _)) (.cons (.fr (.s _)) (.nil)))) (chartPaths_ok fit0 (AM.wf_in64 w2))
 have hv : VRels ρ0 [.agg acs0.toArray, .int .i64 a1, .int .i64 a2] [.agg cs0, .int .i64 a1, .int .i64 a2] := .cons (.agg rel0) (.cons (.flat rfl) (.cons (.flat rfl) (.nil)))
 have done := calls_of Graph.env_ok hc hv n0
 refine done.mono fun e W' ⟨he, bel⟩ => ?_
 subst he
 exact ⟨_, rfl, _, _, _, [], _, [], hW', trodAll_mk1 (shut_bool Try.underlying4 _), (trodAll_cons_mk (Below.trod laidOut (by kernel_rfl) (of_decide_eq_true (by kernel_rfl)) k0 bel lt0) (trodAll_cons_mk (shut_int Try.underlying3 w1) (trodAll_cons_mk (shut_int Try.underlying3 w2) trodAll_mk0))), rfl, bel.frame _, fun h => by cases h⟩
theorem over : Rows.chartPathsRow.holds Try.pinned (OpenSpec.ofChange Rows.chartPathsSpec) :=
 OpenClaim.holds_of_wide 4 Try.f4 rfl rfl rfl rfl rfl rfl rfl ⟨rfl, rfl, rfl, rfl, rfl⟩ rfl rfl rfl rfl rfl (by kernel_rfl) Try.func4 (by kernel_rfl)
  (of_decide_eq_true (by kernel_rfl)) (by unfold Func.isWrapper; first | (rw [if_pos (by decide +kernel)]; kernel_rfl) | (rw [if_neg (by decide +kernel)]; exact ⟨rfl, rfl⟩))
  (fun os started H enc _ => lifted os started H enc)
theorem proved : Rows.ChartPathsSaid := over
#print axioms proved
end Go.Proofs.Ytggaimcopbjdiaa.chartPaths
namespace Go.Proofs.Ytggaimcopbjdiaa
theorem chartPaths_holds : Rows.ChartPathsSaid := chartPaths.proved
end Go.Proofs.Ytggaimcopbjdiaa
