/- The law FrameJoins holds: whatever two frames are handed in, under the conditions that the statement names, it answers true and leaves all that was there as it was. -/
import Derived.Test.YtnngilpiajgobaaRows
import Derived.Test.YtnngilpiajgobaaFrameJoinsWalk
import Derived.Test.YtnngilpiajgobaaAM29
import Derived.WalkKit
import Derived.ProofKit
import Derived.OpenShut
import Derived.ShutString
import Derived.ChangeOld
import Derived.Below
import Derived.Carry
import Derived.SizedLaws
set_option linter.unusedVariables false
namespace Go.Proofs.Ytnngilpiajgobaa.frameJoins
open Go.ChangeShapes Go.WideShapes Go.ChangeAt Go.RowKit
theorem own : ownKnob Try.prog.godebug = none := by kernel_rfl
theorem laidOut : laidOutB Try.prog = true := by kernel_rfl
open Go.Proofs.Ytnngilpiajgobaa.AM (Conc conc_of place_row RowOf VRel VRels Keeps ReadOnly readOnly_emp now_none noRho allOf room acall_of_runs calls_of Now Rho AH TV)
open Go.Proofs.Ytnngilpiajgobaa.FrameJoins (wfU cellsU law_ok)
theorem wf_u64 {n : Int} (h : (Lit.int .u64 n).wf = true) : 0 ≤ n ∧ n < 18446744073709551616 := by
  have : IntKind.u64.min ≤ n ∧ n ≤ IntKind.u64.max := by simpa [Lit.wf] using h
  have e1 : IntKind.u64.min = 0 := by decide
  have e2 : IntKind.u64.max = 18446744073709551615 := by decide
  omega
theorem wfU_of {zs : List Int} (h : ∀ n ∈ zs, (Lit.int .u64 n).wf = true) : wfU zs := fun j => by
  by_cases hj : j < zs.length
  · have : zs.getD j 0 = zs[j] := by simp [List.getD, hj]
    rw [this]
    exact wf_u64 (h _ (List.getElem_mem hj))
  · have : zs.getD j 0 = 0 := by simp [List.getD, Nat.le_of_not_lt hj]
    rw [this]; decide
/-- A frame that is handed in. -/
theorem open_frame {A : Type} {enc : TypeId × Value → A} {W : World} {base : Nat} {v : Value} {d : DataW A} {ps : List MemPlace} (hok : Value.okWide Try.prog W .any base 24 v) (h : DataW.Trod enc Try.prog W 0 (fun _ => true) true 24 v d ps) (hz : ∀ n ∈ d.weights Try.prog 24, n ≤ reachBytes) :
    ∃ xs xl ls ll, v = .agg #[xs, xl] ∧ Conc .u64 W xs ls ∧ Conc .u64 W xl ll ∧ wfU ls ∧ wfU ll ∧ (ls.length + 1) * 8 ≤ room ∧ (ll.length + 1) * 8 ≤ room := by
  obtain ⟨fuel, hf⟩ := h
  obtain ⟨cs, rfl, _⟩ := okWide_struct Try.underlying24 hok
  obtain ⟨y0, y1, n, hd, hl, t0, t1⟩ := trod_struct2 Try.underlying24 hf
  have hl2 : cs.toList.length = 2 := hl.trans (by kernel_rfl)
  obtain ⟨l⟩ := cs
  match l, hl2 with
  | [xs, xl], _ =>
    have ok2 : ∀ (i : Nat) (v : Value), (#[xs, xl] : Array Value)[i]? = some v → Cell.okWide Try.prog W .any base 22 v := by
      unfold Value.okWide at hok
      rw [Try.underlying24] at hok
      obtain ⟨cs', hcs, _, ts, hts, _, hrow⟩ := hok
      cases hcs
      have hts' : ts = [22, 22] := by
        have : Try.prog.cellTypes Try.prog.depth 24 = some [22, 22] := by kernel_rfl
        rw [this] at hts
        cases hts; rfl
      subst hts'
      intro i v hv
      obtain ⟨u, hu, hc⟩ := hrow i v hv
      have hi : i < 2 := (Array.getElem?_eq_some_iff.1 hv).1
      match i, hi, hu with
      | 0, _, hu => cases hu; exact hc
      | 1, _, hu => cases hu; exact hc
    have e1 : Try.prog.cellsOf 22 = 1 := by kernel_rfl
    have e2 : Try.prog.cellsOf 48 = 1 := by kernel_rfl
    have e3 : Try.prog.bytesOf 48 = 8 := by kernel_rfl
    have s0 : ((#[xs, xl].toList).drop 0).take (Try.prog.cellsOf 22) = [xs] := by rw [e1]; rfl
    have s1 : ((#[xs, xl].toList).drop 1).take (Try.prog.cellsOf 22) = [xl] := by rw [e1]; rfl
    have t0' : DataW.trod enc Try.prog W 0 (fun _ => true) true n 22 [xs] = some y0 := by rw [← s0]; exact t0
    have t1' : DataW.trod enc Try.prog W 0 (fun _ => true) true n 22 [xl] = some y1 := by rw [← s1]; exact t1
    obtain ⟨ls, c0, w0, z0⟩ := conc_of Try.underlying22 Try.underlying48 e2 (ok2 0 xs rfl) t0'
    obtain ⟨ll, c1, w1, z1⟩ := conc_of Try.underlying22 Try.underlying48 e2 (ok2 1 xl rfl) t1'
    have hw : ∀ m, m ∈ y0.1.weights Try.prog 22 ∨ m ∈ y1.1.weights Try.prog 22 → m ≤ reachBytes := fun m hm => hz m (by
      have hd1 : d = .agg [y0.1, y1.1] := congrArg Prod.fst hd
      rw [hd1]
      simp only [DataW.weights, Try.underlying24]
      show m ∈ DataW.weightsEach Try.prog [22, 22] [y0.1, y1.1]
      simp only [DataW.weightsEach, List.append_nil, List.mem_append]
      exact hm)
    have b0 := z0 reachBytes fun m hm => hw m (.inl hm)
    have b1 := z1 reachBytes fun m hm => hw m (.inr hm)
    rw [e3] at b0 b1
    have hrb : reachBytes = 140737488351232 := by decide
    have hro : room = 140737488355328 := rfl
    exact ⟨xs, xl, ls, ll, rfl, c0, c1, wfU_of w0, wfU_of w1, by omega, by omega⟩
set_option maxRecDepth 100000 in
theorem lifted (os : Os) (started : os.Started) (H : Type) (enc : TypeId × Value → H) :
    ReturnsInHanded {} Try.checked os 3 .any (Rows.frameJoinsSpec.pre6 enc Try.prog Try.f3 Rows.frameJoinsRow.domain false) (Rows.frameJoinsSpec.post enc Try.prog Try.f3 false true false false) := by
  refine returnsInHanded_of_change_sized (C := Try.checked) own started (by kernel_rfl) Try.func3
    (ChangeSpec.witness6 (enc := enc) (C := Try.checked) false ⟨#[], #[.agg #[.slice none 0 0, .slice none 0 0], .agg #[.slice none 0 0, .slice none 0 0]], []⟩ 8 (by kernel_rfl) (by kernel_rfl) (by kernel_rfl) (by kernel_rfl)) ?_
  intro W base args ds gs before hval0 hW hcnd hsz0 _
  have hsz : (DataW.weightsEach Try.prog (Try.f3.params.toList ++ Rows.frameJoinsSpec.plain.varTypes Try.prog) (ds ++ gs)).all (· ≤ reachBytes) = true := hsz0
  have hval : ∀ (j : Nat) t v, Try.f3.params[j]? = some t → args[j]? = some v → Value.okWide Try.prog W .any base t v := hval0
  have hW' := hW
  obtain ⟨p, q, hA0, hV, rfl, hfz, hnd⟩ := hW
  have hA : DataW.TrodAll enc Try.prog W 0 (fun _ => true) true Try.f3.params.toList args.toList ds p := hA0
  rw [Try.params3] at hA hval hsz
  obtain ⟨v0, vs0, d0, ds0, p0, q0, hargs, rfl, rfl, h0, r0⟩ := trodAll_cons hA
  obtain ⟨v1, vs1, d1, ds1, p1, q1, rfl, rfl, rfl, h1, r1⟩ := trodAll_cons r0
  obtain ⟨rfl, rfl, rfl⟩ := trodAll_nil r1
  obtain rfl : args = #[v0, v1] := by cases args; simp_all
  obtain ⟨rfl, rfl⟩ := trodVars_none hV
  have k0 := h0
  have k1 := h1
  have lt0 : ∀ x ∈ p0, x.block < W.heap.size := by obtain ⟨m, hm⟩ := k0; exact DataW.trod_lt m _ _ _ hm
  have lt1 : ∀ x ∈ p1, x.block < W.heap.size := by obtain ⟨m, hm⟩ := k1; exact DataW.trod_lt m _ _ _ hm
  have hall := List.all_eq_true.1 hsz
  have z0 : ∀ n ∈ d0.weights Try.prog 24, n ≤ reachBytes := fun n hn => by
    have := hall n (DataW.weights_mem_each (j := 0) rfl rfl n hn)
    simpa using this
  have z1 : ∀ n ∈ d1.weights Try.prog 24, n ≤ reachBytes := fun n hn => by
    have := hall n (DataW.weights_mem_each (j := 1) rfl rfl n hn)
    simpa using this
  obtain ⟨xs, xl, ls, ll, rfl, cx, cl, w1, w2, r1', r2'⟩ := open_frame (hval 0 24 v0 rfl rfl) h0 z0
  obtain ⟨ys, yl, ms, ml, rfl, cy, cm, w3, w4, r3', r4'⟩ := open_frame (hval 1 24 v1 rfl rfl) h1 z1
  clear hA0 hval0 hsz0 hsz
  have hn0 : Now Try.prog (allOf W) W noRho (AM.Vec.emp : AH TV) W := now_none _ _ _ _ fun _ _ h => h
  obtain ⟨H1, ρ1, a1, k1', o1, l1, n1, e1, q1⟩ := place_row readOnly_emp hn0 cx
  obtain ⟨H2, ρ2, a2, k2', o2, l2, n2, e2, q2⟩ := place_row o1 n1 cl
  obtain ⟨H3, ρ3, a3, k3', o3, l3, n3, e3, q3⟩ := place_row o2 n2 cy
  obtain ⟨H4, ρ4, a4, k4', o4, l4, n4, e4, q4⟩ := place_row o3 n3 cm
  have run := law_ok (((q1.ext k2').ext k3').ext k4') ((q2.ext k3').ext k4') (q3.ext k4') q4 r1' r2' r3' r4' w1 w2
  obtain ⟨N, v, H5, hc, rfl⟩ := acall_of_runs (Q := fun v _ => v = .bool true) run
  have hv : VRels ρ4 [.agg #[a1, a2], .agg #[a3, a4]] [.agg #[xs, xl], .agg #[ys, yl]] :=
    .cons (.agg (.cons (((e1.mono l2).mono l3).mono l4) (.cons ((e2.mono l3).mono l4) .nil))) (.cons (.agg (.cons (e3.mono l4) (.cons e4 .nil))) .nil)
  have done := calls_of FrameJoins.env_ok hc hv n4
  refine done.mono fun e W' ⟨he, bel⟩ => ?_
  subst he
  exact ⟨_, rfl, _, _, _, [], _, [], hW', trodAll_mk1 (shut_bool Try.underlying4 _), (trodAll_cons_mk (Below.trod laidOut (by kernel_rfl) (of_decide_eq_true (by kernel_rfl)) k0 bel lt0) (trodAll_cons_mk (Below.trod laidOut (by kernel_rfl) (of_decide_eq_true (by kernel_rfl)) k1 bel lt1) trodAll_mk0)), rfl, bel.frame _, fun h => by cases h⟩
theorem over : Rows.frameJoinsRow.holds Try.pinned (OpenSpec.ofChange Rows.frameJoinsSpec) :=
  OpenClaim.holds_of_wide 3 Try.f3 rfl rfl rfl rfl rfl rfl rfl ⟨rfl, rfl, rfl, rfl, rfl⟩ rfl rfl rfl rfl rfl (by kernel_rfl) Try.func3 (by kernel_rfl)
    (of_decide_eq_true (by kernel_rfl)) (by unfold Func.isWrapper; first | (rw [if_pos (by decide +kernel)]; kernel_rfl) | (rw [if_neg (by decide +kernel)]; exact ⟨rfl, rfl⟩))
    (fun os started H enc _ => lifted os started H enc)
theorem proved : Rows.FrameJoinsSaid := over
#print axioms proved
end Go.Proofs.Ytnngilpiajgobaa.frameJoins
namespace Go.Proofs.Ytnngilpiajgobaa
/-- The row, under a short name, for the claim. -/
theorem frameJoins_holds : Rows.FrameJoinsSaid := frameJoins.proved
end Go.Proofs.Ytnngilpiajgobaa
