import Derived.Test.YtggaimcopbjdiaaRegLev
set_option linter.unusedVariables false
set_option linter.unusedSimpArgs false
set_option maxRecDepth 10000
namespace Go.Proofs.Ytggaimcopbjdiaa.Graph
open Go.Proofs.Ytggaimcopbjdiaa.AM
def FnX (H : AH TV) (acs : List Value) (f : Fn) : Prop := ∃ vp vr vc, acs = [.int .u64 f.lvl, vp, vr, .int .i64 f.loc, .int .i64 f.stk, vc] ∧
 RowX H vp (f.ps.map fun z => [Value.int .u64 z]) ∧ RowX H vr (f.rs.map fun z => [Value.int .u64 z]) ∧ RowX H vc (f.code.map fun p => [Value.int .i64 p.1, Value.int .i64 p.2])
theorem FnX.rel {H : AH TV} {acs : List Value} {f : Fn} {ρ : PR} (h : FnX H acs f) : PRel (fun a => a < Vec.size H) ρ H (encF f) (.agg acs.toArray) := by
 obtain ⟨vp, vr, vc, rfl, h1, h2, h3⟩ := h
 have := PRels.cons (ρ := ρ) (.fr (.s (.int .u64 f.lvl))) (.cons (.fr (frz_ints h1 fun _ h => h)) (.cons (.fr (frz_ints h2 fun _ h => h)) (.cons (.fr (.s (.int .i64 f.loc))) (.cons (.fr (.s (.int .i64 f.stk))) (.cons (.fr (frz_pairs h3 fun _ h => h)) .nil)))))
 exact .agg this.len this.at'
structure FnFits (f : Fn) : Prop where
 ps : f.ps.length < 17592186044415
 rs : f.rs.length < 17592186044415
 cd : f.code.length < 17592186044416
 op : ∀ i, in64 (f.code.getD i (0, 0)).1
 arg : ∀ i, in64 (f.code.getD i (0, 0)).2
theorem stays_x {es : List (List Value)} : Stays (fun (H : AH TV) acs => ∃ av, acs = [av] ∧ RowX H av es) := fun H H' acs k ⟨av, h1, h2⟩ => ⟨av, h1, h2.ext k⟩
theorem stays_eq {cs : List Value} : Stays (fun (_ : AH TV) acs => acs = cs) := fun _ _ _ _ h => h
theorem cut1 {c0 c1 c2 c3 c4 c5 : Value} : (([c0, c1, c2, c3, c4, c5].drop 0).take 1 = [c0]) ∧ (([c0, c1, c2, c3, c4, c5].drop 1).take 1 = [c1]) ∧ (([c0, c1, c2, c3, c4, c5].drop 2).take 1 = [c2]) ∧ (([c0, c1, c2, c3, c4, c5].drop 3).take 1 = [c3]) ∧ (([c0, c1, c2, c3, c4, c5].drop 4).take 1 = [c4]) ∧ (([c0, c1, c2, c3, c4, c5].drop 5).take 1 = [c5]) := ⟨rfl, rfl, rfl, rfl, rfl, rfl⟩
section
variable {A : Type} {enc : TypeId × Value → A} {W : World}
theorem pl_fn {r : List Value} {d : DataW A} (h : Trd enc Try.prog W 27 r d) (hz : ∀ m ∈ d.weights Try.prog 27, m ≤ reachBytes) : ∃ f, FnFits f ∧ Pl TV Try.prog W r (fun H acs => FnX H acs f) := by
 obtain ⟨hl, hf⟩ := tr_struct Try.underlying27 h
 have hl6 : r.length = 6 := hl.trans (by kernel_rfl)
 have e24 : Try.prog.cellsOf 24 = 1 := by kernel_rfl
 have e23 : Try.prog.cellsOf 23 = 1 := by kernel_rfl
 have e3 : Try.prog.cellsOf 3 = 1 := by kernel_rfl
 have e25 : Try.prog.cellsOf 25 = 1 := by kernel_rfl
 have b23 : Try.prog.bytesOf 23 = 8 := by kernel_rfl
 have b34 : Try.prog.bytesOf 83 = 16 := by kernel_rfl
 have hrb : reachBytes = 140737488351232 := by decide
 obtain ⟨z0, t0, _⟩ : ∃ z, Trd enc Try.prog W 23 ((r.drop 0).take (Try.prog.cellsOf 23)) z ∧ ∀ m ∈ z.weights Try.prog 23, m ∈ d.weights Try.prog 27 := hf 0 _ rfl
 obtain ⟨z1, t1, y1⟩ : ∃ z, Trd enc Try.prog W 24 ((r.drop 1).take (Try.prog.cellsOf 24)) z ∧ ∀ m ∈ z.weights Try.prog 24, m ∈ d.weights Try.prog 27 := hf 1 _ rfl
 obtain ⟨z2, t2, y2⟩ : ∃ z, Trd enc Try.prog W 24 ((r.drop 2).take (Try.prog.cellsOf 24)) z ∧ ∀ m ∈ z.weights Try.prog 24, m ∈ d.weights Try.prog 27 := hf 2 _ rfl
 obtain ⟨z3, t3, _⟩ : ∃ z, Trd enc Try.prog W 3 ((r.drop 3).take (Try.prog.cellsOf 3)) z ∧ ∀ m ∈ z.weights Try.prog 3, m ∈ d.weights Try.prog 27 := hf 3 _ rfl
 obtain ⟨z4, t4, _⟩ : ∃ z, Trd enc Try.prog W 3 ((r.drop 4).take (Try.prog.cellsOf 3)) z ∧ ∀ m ∈ z.weights Try.prog 3, m ∈ d.weights Try.prog 27 := hf 4 _ rfl
 obtain ⟨z5, t5, y5⟩ : ∃ z, Trd enc Try.prog W 25 ((r.drop 5).take (Try.prog.cellsOf 25)) z ∧ ∀ m ∈ z.weights Try.prog 25, m ∈ d.weights Try.prog 27 := hf 5 _ rfl
 simp only [e24, e23, e3, e25] at t0 t1 t2 t3 t4 t5
 match r, hl6 with
 | [c0, c1, c2, c3, c4, c5], _ =>
   obtain ⟨a0, q0, _⟩ := tr_int Try.underlying23 t0
   obtain ⟨ps, p1, b1, _⟩ := plx_ints Try.underlying24 Try.underlying23 e23 (V := TV) t1 fun m hm => hz m (y1 m hm)
   obtain ⟨rs, p2, b2, _⟩ := plx_ints Try.underlying24 Try.underlying23 e23 (V := TV) t2 fun m hm => hz m (y2 m hm)
   obtain ⟨a3, q3, _⟩ := tr_int Try.underlying3 t3
   obtain ⟨a4, q4, _⟩ := tr_int Try.underlying3 t4
   obtain ⟨code, p5, b5, w5⟩ := plx_pairs Try.underlying25 Try.underlying83 rfl rfl rfl Try.underlying3 Try.underlying2 (by kernel_rfl) (by kernel_rfl) (by kernel_rfl) (V := TV) t5 fun m hm => hz m (y5 m hm)
   rw [cut1.1] at q0
   rw [cut1.2.2.2.1] at q3
   rw [cut1.2.2.2.2.1] at q4
   rw [cut1.2.1] at p1
   rw [cut1.2.2.1] at p2
   rw [cut1.2.2.2.2.2] at p5
   simp only [List.cons.injEq, and_true] at q0 q3 q4
   subst q0 q3 q4
   rw [b23, hrb] at b1 b2
   rw [b34, hrb] at b5
   have hin : ∀ i, in64 (code.getD i (0, 0)).1 ∧ in64 (code.getD i (0, 0)).2 := fun i => by
    rw [List.getD_eq_getElem?_getD]
    cases hi : code[i]? with
    | none => simp [in64]
    | some p =>
      obtain ⟨q1, q2⟩ := w5 p (List.mem_of_getElem? hi)
      exact ⟨wf_in64 q1, wf_in64 q2⟩
   refine ⟨⟨a0, ps, rs, a3, a4, code⟩, ⟨by show ps.length < _; omega, by show rs.length < _; omega, by show code.length < _; omega, fun i => (hin i).1, fun i => (hin i).2⟩, ?_⟩
   have p0 : Pl TV Try.prog W [Value.int .u64 a0] (fun _ acs => acs = [Value.int .u64 a0]) := pl_flat rfl
   have p3 : Pl TV Try.prog W [Value.int .i64 a3] (fun _ acs => acs = [Value.int .i64 a3]) := pl_flat rfl
   have p4 : Pl TV Try.prog W [Value.int .i64 a4] (fun _ acs => acs = [Value.int .i64 a4]) := pl_flat rfl
   have all := pl_append p0 stays_eq (pl_append p1 stays_x (pl_append p2 stays_x (pl_append p3 stays_eq (pl_append p4 stays_eq p5))))
   refine pl_imp all ?_
   rintro H acs ⟨x0, _, rfl, rfl, x1, _, rfl, ⟨vp, rfl, h1⟩, x2, _, rfl, ⟨vr, rfl, h2⟩, x3, _, rfl, rfl, x4, _, rfl, rfl, ⟨vc, rfl, h5⟩⟩
   exact ⟨vp, vr, vc, rfl, h1, h2, h5⟩
theorem FnX.ext {H H' : AH TV} {acs : List Value} {f : Fn} (h : FnX H acs f) (k : Keeps H H') : FnX H' acs f := by
 obtain ⟨vp, vr, vc, e, h1, h2, h3⟩ := h
 exact ⟨vp, vr, vc, e, h1.ext k, h2.ext k, h3.ext k⟩
end
theorem law_run {g : FuncId} {args : List PV} {H : AH TV} {avs : List Value} (hr : PRels (fun a => a < Vec.size H) none_ H args avs) (h : PFun E g args (valQ (isV (.s (.bool true))))) : ∃ N v H', acall E N g avs H = some (v, H') ∧ v = .bool true := by
 have := h (fun a => a < Vec.size H) none_ H avs (rel_none fun _ h => h) hr
 obtain ⟨N, v, H', h1, F', ρ', hp', w, _, _, _, h2, h3, h4⟩ := acall_of_runs (Q := fun v H' => ∃ F' ρ' hp' w, PExt (fun a => a < Vec.size H) none_ [] H F' ρ' [] H' ∧ (∀ b x, b ∈ ([] : List Nat) → none_ b = some x → ρ' b = some x) ∧ Rel F' ρ' hp' [] H' ∧ PRel F' ρ' H' w v ∧ valQ (isV (.s (.bool true))) w hp') this
 refine ⟨N, v, H', h1, ?_⟩
 cases h4
 cases h2 with
 | fr h => cases h; rfl
end Go.Proofs.Ytggaimcopbjdiaa.Graph
