/- The law PostTree holds: whatever is handed in, under the conditions that the statement names, it answers true and leaves all that was there as it was. -/
import Derived.Test.YtdbehmepikhghaaRows
import Derived.Test.YtdbehmepikhghaaGraphOpen
import Derived.Test.YtdbehmepikhghaaPostOpen
import Derived.Test.YtdbehmepikhghaaPostLaw
import Derived.WalkKit
import Derived.ProofKit
import Derived.OpenShut
import Derived.ShutString
import Derived.ChangeOld
import Derived.Below
import Derived.Carry
import Derived.SizedLaws
set_option linter.unusedVariables false
namespace Go.Proofs.Ytdbehmepikhghaa.postTree
open Go.ChangeShapes Go.WideShapes Go.ChangeAt Go.RowKit
theorem own : ownKnob Try.prog.godebug = none := by kernel_rfl
theorem laidOut : laidOutB Try.prog = true := by kernel_rfl
open Go.Proofs.Ytdbehmepikhghaa.AM (Trd tr_struct tr_int VRel VRels ReadOnly readOnly_emp now_none noRho allOf acall_of_runs calls_of Now Rho AH TV)
open Go.Proofs.Ytdbehmepikhghaa.Graph (FnX pl_fn postTree_ok)
set_option maxRecDepth 100000 in
theorem lifted (os : Os) (started : os.Started) (H : Type) (enc : TypeId × Value → H) :
    ReturnsInHanded {} Try.checked os 9 .any (Rows.postTreeSpec.pre6 enc Try.prog Try.f9 Rows.postTreeRow.domain false) (Rows.postTreeSpec.post enc Try.prog Try.f9 false true false false) := by
  refine returnsInHanded_of_change_sized (C := Try.checked) own started (by kernel_rfl) Try.func9
    (ChangeSpec.witness6 (enc := enc) (C := Try.checked) false ⟨#[], #[.agg #[.int .u64 0, .slice none 0 0, .slice none 0 0, .int .i64 0, .int .i64 0, .slice none 0 0]], []⟩ 8 (by kernel_rfl) (by kernel_rfl) (by kernel_rfl) (by kernel_rfl)) ?_
  intro W base args ds gs before hval0 hW hcnd hsz0 _
  have hsz : (DataW.weightsEach Try.prog (Try.f9.params.toList ++ Rows.postTreeSpec.plain.varTypes Try.prog) (ds ++ gs)).all (· ≤ reachBytes) = true := hsz0
  have hval : ∀ (j : Nat) t v, Try.f9.params[j]? = some t → args[j]? = some v → Value.okWide Try.prog W .any base t v := hval0
  have hW' := hW
  obtain ⟨p, q, hA0, hV, rfl, hfz, hnd⟩ := hW
  have hA : DataW.TrodAll enc Try.prog W 0 (fun _ => true) true Try.f9.params.toList args.toList ds p := hA0
  rw [Try.params9] at hA hval hsz
  obtain ⟨v0, vs0, d0, ds0, p0, q0, hargs, rfl, rfl, h0, r0⟩ := trodAll_cons hA
  obtain ⟨rfl, rfl, rfl⟩ := trodAll_nil r0
  obtain rfl : args = #[v0] := by cases args; simp_all
  obtain ⟨rfl, rfl⟩ := trodVars_none hV
  have k0 := h0
  have lt0 : ∀ x ∈ p0, x.block < W.heap.size := by obtain ⟨m, hm⟩ := k0; exact DataW.trod_lt m _ _ _ hm
  have hz0 : ∀ n ∈ d0.weights Try.prog 27, n ≤ reachBytes := fun n hn => by
    have := List.all_eq_true.1 hsz n (DataW.weights_mem_each (j := 0) rfl rfl n hn)
    simpa using this
  obtain ⟨cs0, rfl, _⟩ := okWide_struct Try.underlying27 (hval 0 27 v0 rfl rfl)
  obtain ⟨m0, fit0, pl0⟩ := pl_fn (show Trd enc Try.prog W 27 cs0.toList d0 from (by obtain ⟨fuel, hf⟩ := h0; exact ⟨fuel, p0, hf⟩)) hz0
  clear hA0 hval0 hsz0 hsz
  have hn0 : Now Try.prog (allOf W) W noRho (AM.Vec.emp : AH TV) W := now_none _ _ _ _ fun _ _ h => h
  obtain ⟨H1, ρ1, acs0, _, _, _, n1, rel0, md⟩ := pl0 (AM.Vec.emp : AH TV) noRho readOnly_emp hn0
  obtain ⟨N, v, H5, hc, rfl⟩ := Graph.fn_one md (postTree_ok fit0.op fit0.arg)
  have hv : VRels ρ1 [.agg acs0.toArray] [.agg cs0] := .cons (.agg rel0) (.nil)
  have done := calls_of Graph.env_ok hc hv n1
  refine done.mono fun e W' ⟨he, bel⟩ => ?_
  subst he
  exact ⟨_, rfl, _, _, _, [], _, [], hW', trodAll_mk1 (shut_bool Try.underlying4 _), (trodAll_cons_mk (Below.trod laidOut (by kernel_rfl) (of_decide_eq_true (by kernel_rfl)) k0 bel lt0) trodAll_mk0), rfl, bel.frame _, fun h => by cases h⟩
theorem over : Rows.postTreeRow.holds Try.pinned (OpenSpec.ofChange Rows.postTreeSpec) :=
  OpenClaim.holds_of_wide 9 Try.f9 rfl rfl rfl rfl rfl rfl rfl ⟨rfl, rfl, rfl, rfl, rfl⟩ rfl rfl rfl rfl rfl (by kernel_rfl) Try.func9 (by kernel_rfl)
    (of_decide_eq_true (by kernel_rfl)) (by unfold Func.isWrapper; first | (rw [if_pos (by decide +kernel)]; kernel_rfl) | (rw [if_neg (by decide +kernel)]; exact ⟨rfl, rfl⟩))
    (fun os started H enc _ => lifted os started H enc)
theorem proved : Rows.PostTreeSaid := over
#print axioms proved
end Go.Proofs.Ytdbehmepikhghaa.postTree
namespace Go.Proofs.Ytdbehmepikhghaa
/-- The row, under a short name, for the claim. -/
theorem postTree_holds : Rows.PostTreeSaid := postTree.proved
end Go.Proofs.Ytdbehmepikhghaa
