/- Modules, functions and frames that are handed in. -/
import Derived.Test.YtollibkfagjnaaaShapeKitD
set_option linter.unusedVariables false
set_option linter.unusedSimpArgs false
set_option maxRecDepth 10000
namespace Go.Proofs.Ytollibkfagjnaaa.Shape.Kit
open Go.Proofs.Ytollibkfagjnaaa.AM
/-- Of their types' ranges. -/
structure FnWf (f : Fn) : Prop where
  lvl : (Lit.int .u64 f.lvl).wf = true
  ps : ∀ z, z ∈ f.ps → (Lit.int .u64 z).wf = true
  rs : ∀ z, z ∈ f.rs → (Lit.int .u64 z).wf = true
  loc : (Lit.int .i64 f.loc).wf = true
  stk : (Lit.int .i64 f.stk).wf = true
  code : ∀ p, p ∈ f.code → (Lit.int .i64 p.1).wf = true ∧ (Lit.int .i64 p.2).wf = true
  psl : f.ps.length ≤ 17592186043904
structure MdWf (m : Md) : Prop where
  gs : ∀ z, z ∈ m.gs → (Lit.int .u64 z).wf = true
  arrays : ∀ p, p ∈ m.arrays → (Lit.int .i64 p.1).wf = true ∧ (Lit.int .u64 p.2).wf = true
  chans : ∀ z, z ∈ m.chans → (Lit.int .u64 z).wf = true
  fns : ∀ f, f ∈ m.fns → FnWf f
theorem wf_u64 {n : Int} (h : (Lit.int .u64 n).wf = true) : 0 ≤ n ∧ n < 18446744073709551616 := by
  have : IntKind.u64.min ≤ n ∧ n ≤ IntKind.u64.max := by simpa [Lit.wf] using h
  have e1 : IntKind.u64.min = 0 := by decide
  have e2 : IntKind.u64.max = 18446744073709551615 := by decide
  omega
abbrev rU (xs : List Int) : List (List Value) := xs.map fun z => [Value.int .u64 z]
def FnX (H : AH TV) (acs : List Value) (f : Fn) : Prop := ∃ vp vr vc, acs = [.int .u64 f.lvl, vp, vr, .int .i64 f.loc, .int .i64 f.stk, vc] ∧
  RowX H vp (rU f.ps) ∧ RowX H vr (rU f.rs) ∧ RowX H vc (f.code.map fun p => [Value.int .i64 p.1, Value.int .i64 p.2])
theorem FnX.ext {H H' : AH TV} {acs : List Value} {f : Fn} (h : FnX H acs f) (k : Keeps H H') : FnX H' acs f := by
  obtain ⟨vp, vr, vc, e, h1, h2, h3⟩ := h
  exact ⟨vp, vr, vc, e, h1.ext k, h2.ext k, h3.ext k⟩
theorem row_cells {H : AH TV} {v : Value} {es : List (List Value)} (h : RowX H v es) : oneCell v = true := by
  rcases h with ⟨h, _⟩ | ⟨b, rfl, _⟩
  · rcases h with rfl | ⟨b, o, s, ce, rfl⟩ <;> rfl
  · rfl
theorem FnX.cells {H : AH TV} {acs : List Value} {f : Fn} (h : FnX H acs f) : acs.length = 6 ∧ (∀ v, v ∈ acs → oneCell v = true) ∧ ∀ (F : Nat → Prop), (∀ b, b < Vec.size H → F b) → ∀ (j : Nat) (c : PV) (v : Value), (cellsF f)[j]? = some c → acs[j]? = some v → FRel F H c v := by
  obtain ⟨vp, vr, vc, rfl, h1, h2, h3⟩ := h
  refine ⟨rfl, fun v hv => ?_, fun F hF j c v q1 q2 => ?_⟩
  · simp only [List.mem_cons, List.not_mem_nil, or_false] at hv
    rcases hv with rfl | rfl | rfl | rfl | rfl | rfl
    · rfl
    · exact row_cells h1
    · exact row_cells h2
    · rfl
    · rfl
    · exact row_cells h3
  · match j with
    | 0 => cases q1; cases q2; exact .s _
    | 1 => cases q1; cases q2; exact frz_ints h1 hF
    | 2 => cases q1; cases q2; exact frz_ints h2 hF
    | 3 => cases q1; cases q2; exact .s _
    | 4 => cases q1; cases q2; exact .s _
    | 5 => cases q1; cases q2; exact frz_pairs h3 hF
    | j + 6 => simp [cellsF] at q1
theorem FnX.rel {H : AH TV} {acs : List Value} {f : Fn} {ρ : PR} (h : FnX H acs f) : PRel (fun a => a < Vec.size H) ρ H (encF f) (.agg acs.toArray) := by
  obtain ⟨h1, _, h3⟩ := h.cells
  exact .agg (by rw [h1]; rfl) fun j c v q1 q2 => .fr (h3 _ (fun _ h => h) j c v q1 q2)
/-- Functions, one after another. -/
def FnsX (H : AH TV) (v : Value) (fs : List Fn) : Prop := ∃ ars, RowX H v ars ∧ All2 (fun a f => FnX H a f) ars fs
theorem FnsX.ext {H H' : AH TV} {v : Value} {fs : List Fn} (h : FnsX H v fs) (k : Keeps H H') : FnsX H' v fs := by
  obtain ⟨ars, h1, h2⟩ := h
  exact ⟨ars, h1.ext k, h2.imp fun a f h => h.ext k⟩
theorem FnsX.frz {H : AH TV} {v : Value} {fs : List Fn} (h : FnsX H v fs) {F : Nat → Prop} (hF : ∀ b, b < Vec.size H → F b) : FRel F H (encFs fs) v := by
  obtain ⟨ars, h1, h2⟩ := h
  have hl := h2.length
  have := h1.frz (F := F) (sz := 6) (row := fun i => cellsF (fs.getD i default)) hF (fun e he => by
    obtain ⟨i, hi, rfl⟩ := List.getElem_of_mem he
    exact (h2.get i hi (by omega)).cells.1) (fun e he v hv => by
    obtain ⟨i, hi, rfl⟩ := List.getElem_of_mem he
    exact (h2.get i hi (by omega)).cells.2.1 v hv) (fun i hi => rfl) (fun i j e c v q1 q2 q3 => by
    have hi := (List.getElem?_eq_some_iff.1 q1).1
    rw [List.getElem?_eq_getElem hi] at q1
    cases q1
    have hf := (h2.get i hi (by omega)).cells.2.2 F hF j c v
    have : fs.getD i default = fs[i] := by rw [List.getD_eq_getElem?_getD, List.getElem?_eq_getElem (by omega)]; rfl
    simp only [this] at q2
    exact hf q2 q3)
  rw [hl] at this
  exact this
def MdX (H : AH TV) (acs : List Value) (m : Md) : Prop := ∃ vg va vc vf, acs = [vg, va, vc, vf] ∧ RowX H vg (rU m.gs) ∧ RowX H va (m.arrays.map fun p => [Value.int .i64 p.1, Value.int .u64 p.2]) ∧ RowX H vc (rU m.chans) ∧ FnsX H vf m.fns
theorem MdX.ext {H H' : AH TV} {acs : List Value} {m : Md} (h : MdX H acs m) (k : Keeps H H') : MdX H' acs m := by
  obtain ⟨vg, va, vc, vf, e, h1, h2, h3, h4⟩ := h
  exact ⟨vg, va, vc, vf, e, h1.ext k, h2.ext k, h3.ext k, h4.ext k⟩
theorem MdX.rel {H : AH TV} {acs : List Value} {m : Md} {ρ : PR} (h : MdX H acs m) : PRel (fun a => a < Vec.size H) ρ H (encM m) (.agg acs.toArray) := by
  obtain ⟨vg, va, vc, vf, rfl, h1, h2, h3, h4⟩ := h
  have := PRels.cons (ρ := ρ) (.fr (frz_ints h1 fun _ h => h)) (.cons (.fr (frz_pairs h2 fun _ h => h)) (.cons (.fr (frz_ints h3 fun _ h => h)) (.cons (.fr (h4.frz fun _ h => h)) .nil)))
  exact .agg this.len this.at'
def FrX (H : AH TV) (acs : List Value) (x : Fr) : Prop := ∃ vs vl, acs = [vs, vl] ∧ RowX H vs (rU x.st) ∧ RowX H vl (rU x.lo)
theorem FrX.ext {H H' : AH TV} {acs : List Value} {x : Fr} (h : FrX H acs x) (k : Keeps H H') : FrX H' acs x := by
  obtain ⟨vs, vl, e, h1, h2⟩ := h
  exact ⟨vs, vl, e, h1.ext k, h2.ext k⟩
theorem FrX.rel {H : AH TV} {acs : List Value} {x : Fr} {ρ : PR} (h : FrX H acs x) : PRel (fun a => a < Vec.size H) ρ H (encFr x) (.agg acs.toArray) := by
  obtain ⟨vs, vl, rfl, h1, h2⟩ := h
  have := PRels.cons (ρ := ρ) (.fr (frz_ints h1 fun _ h => h)) (.cons (.fr (frz_ints h2 fun _ h => h)) .nil)
  exact .agg this.len this.at'
theorem stays_x {es : List (List Value)} : Stays (fun (H : AH TV) acs => ∃ av, acs = [av] ∧ RowX H av es) := fun H H' acs k ⟨av, h1, h2⟩ => ⟨av, h1, h2.ext k⟩
theorem stays_eq {cs : List Value} : Stays (fun (_ : AH TV) acs => acs = cs) := fun _ _ _ _ h => h
theorem cut6 {c0 c1 c2 c3 c4 c5 : Value} : (([c0, c1, c2, c3, c4, c5].drop 0).take 1 = [c0]) ∧ (([c0, c1, c2, c3, c4, c5].drop 1).take 1 = [c1]) ∧ (([c0, c1, c2, c3, c4, c5].drop 2).take 1 = [c2]) ∧ (([c0, c1, c2, c3, c4, c5].drop 3).take 1 = [c3]) ∧ (([c0, c1, c2, c3, c4, c5].drop 4).take 1 = [c4]) ∧ (([c0, c1, c2, c3, c4, c5].drop 5).take 1 = [c5]) := ⟨rfl, rfl, rfl, rfl, rfl, rfl⟩
theorem cut4 {c0 c1 c2 c3 : Value} : (([c0, c1, c2, c3].drop 0).take 1 = [c0]) ∧ (([c0, c1, c2, c3].drop 1).take 1 = [c1]) ∧ (([c0, c1, c2, c3].drop 2).take 1 = [c2]) ∧ (([c0, c1, c2, c3].drop 3).take 1 = [c3]) := ⟨rfl, rfl, rfl, rfl⟩
theorem cut2 {c0 c1 : Value} : (([c0, c1].drop 0).take 1 = [c0]) ∧ (([c0, c1].drop 1).take 1 = [c1]) := ⟨rfl, rfl⟩
section
variable {A : Type} {enc : TypeId × Value → A} {W : World}
theorem rb : reachBytes = 140737488351232 := by decide
theorem cU : Try.prog.cellsOf 22 = 1 := by kernel_rfl
theorem cL : Try.prog.cellsOf 30 = 1 := by kernel_rfl
theorem cI : Try.prog.cellsOf 3 = 1 := by kernel_rfl
theorem cC : Try.prog.cellsOf 56 = 1 := by kernel_rfl
theorem cA : Try.prog.cellsOf 23 = 1 := by kernel_rfl
theorem cFs : Try.prog.cellsOf 24 = 1 := by kernel_rfl
theorem bL : Try.prog.bytesOf 30 = 8 := by kernel_rfl
theorem bI : Try.prog.bytesOf 62 = 16 := by kernel_rfl
theorem bA : Try.prog.bytesOf 83 = 16 := by kernel_rfl
theorem bF : Try.prog.bytesOf 58 = 96 := by kernel_rfl
theorem plx_labels {cs : List Value} {d : DataW A} (h : Trd enc Try.prog W 22 cs d) (hz : ∀ m ∈ d.weights Try.prog 22, m ≤ reachBytes) : ∃ zs : List Int, Pl TV Try.prog W cs (fun H acs => ∃ av, acs = [av] ∧ RowX H av (rU zs)) ∧ zs.length ≤ 17592186043904 ∧ ∀ z, z ∈ zs → (Lit.int .u64 z).wf = true := by
  obtain ⟨zs, h1, h2, h3⟩ := plx_ints Try.underlying22 Try.underlying30 cL (V := TV) h hz
  refine ⟨zs, h1, ?_, h3⟩
  rw [bL, rb] at h2
  omega
theorem plx_fn {r : List Value} {d : DataW A} (h : Trd enc Try.prog W 58 r d) (hz : ∀ m ∈ d.weights Try.prog 58, m ≤ reachBytes) : ∃ f, FnFits f ∧ FnWf f ∧ Pl TV Try.prog W r (fun H acs => FnX H acs f) := by
  obtain ⟨hl, hf⟩ := tr_struct Try.underlying58 h
  have hl6 : r.length = 6 := hl.trans (by kernel_rfl)
  obtain ⟨z0, t0, _⟩ : ∃ z, Trd enc Try.prog W 30 ((r.drop 0).take (Try.prog.cellsOf 30)) z ∧ ∀ m ∈ z.weights Try.prog 30, m ∈ d.weights Try.prog 58 := hf 0 _ rfl
  obtain ⟨z1, t1, y1⟩ : ∃ z, Trd enc Try.prog W 22 ((r.drop 1).take (Try.prog.cellsOf 22)) z ∧ ∀ m ∈ z.weights Try.prog 22, m ∈ d.weights Try.prog 58 := hf 1 _ rfl
  obtain ⟨z2, t2, y2⟩ : ∃ z, Trd enc Try.prog W 22 ((r.drop 2).take (Try.prog.cellsOf 22)) z ∧ ∀ m ∈ z.weights Try.prog 22, m ∈ d.weights Try.prog 58 := hf 2 _ rfl
  obtain ⟨z3, t3, _⟩ : ∃ z, Trd enc Try.prog W 3 ((r.drop 3).take (Try.prog.cellsOf 3)) z ∧ ∀ m ∈ z.weights Try.prog 3, m ∈ d.weights Try.prog 58 := hf 3 _ rfl
  obtain ⟨z4, t4, _⟩ : ∃ z, Trd enc Try.prog W 3 ((r.drop 4).take (Try.prog.cellsOf 3)) z ∧ ∀ m ∈ z.weights Try.prog 3, m ∈ d.weights Try.prog 58 := hf 4 _ rfl
  obtain ⟨z5, t5, y5⟩ : ∃ z, Trd enc Try.prog W 56 ((r.drop 5).take (Try.prog.cellsOf 56)) z ∧ ∀ m ∈ z.weights Try.prog 56, m ∈ d.weights Try.prog 58 := hf 5 _ rfl
  simp only [cU, cL, cI, cC] at t0 t1 t2 t3 t4 t5
  match r, hl6 with
  | [c0, c1, c2, c3, c4, c5], _ =>
    obtain ⟨a0, q0, w0⟩ := tr_int Try.underlying30 t0
    obtain ⟨ps, p1, b1, w1⟩ := plx_labels t1 fun m hm => hz m (y1 m hm)
    obtain ⟨rs, p2, b2, w2⟩ := plx_labels t2 fun m hm => hz m (y2 m hm)
    obtain ⟨a3, q3, w3⟩ := tr_int Try.underlying3 t3
    obtain ⟨a4, q4, w4⟩ := tr_int Try.underlying3 t4
    obtain ⟨code, p5, b5, w5⟩ := plx_pairs Try.underlying56 Try.underlying62 rfl rfl rfl Try.underlying3 Try.underlying2 (by kernel_rfl) (by kernel_rfl) (by kernel_rfl) (V := TV) t5 fun m hm => hz m (y5 m hm)
    rw [cut6.1] at q0
    rw [cut6.2.2.2.1] at q3
    rw [cut6.2.2.2.2.1] at q4
    rw [cut6.2.1] at p1
    rw [cut6.2.2.1] at p2
    rw [cut6.2.2.2.2.2] at p5
    simp only [List.cons.injEq, and_true] at q0 q3 q4
    subst q0 q3 q4
    rw [bI, rb] at b5
    refine ⟨⟨a0, ps, rs, a3, a4, code⟩, ⟨by show ps.length < _; omega, by show rs.length < _; omega, by show code.length < _; omega⟩, ⟨w0, w1, w2, w3, w4, w5, b1⟩, ?_⟩
    have p0 : Pl TV Try.prog W [Value.int .u64 a0] (fun _ acs => acs = [Value.int .u64 a0]) := pl_flat rfl
    have p3 : Pl TV Try.prog W [Value.int .i64 a3] (fun _ acs => acs = [Value.int .i64 a3]) := pl_flat rfl
    have p4 : Pl TV Try.prog W [Value.int .i64 a4] (fun _ acs => acs = [Value.int .i64 a4]) := pl_flat rfl
    have all := pl_append p0 stays_eq (pl_append p1 stays_x (pl_append p2 stays_x (pl_append p3 stays_eq (pl_append p4 stays_eq p5))))
    refine pl_imp all ?_
    rintro H acs ⟨x0, _, rfl, rfl, x1, _, rfl, ⟨vp, rfl, h1⟩, x2, _, rfl, ⟨vr, rfl, h2⟩, x3, _, rfl, rfl, x4, _, rfl, rfl, ⟨vc, rfl, h5⟩⟩
    exact ⟨vp, vr, vc, rfl, h1, h2, h5⟩
theorem plx_fns {cs : List Value} {d : DataW A} (h : Trd enc Try.prog W 24 cs d) (hz : ∀ m ∈ d.weights Try.prog 24, m ≤ reachBytes) : ∃ fns : List Fn, (∀ f, f ∈ fns → FnFits f ∧ FnWf f) ∧ fns.length < 1466015503700 ∧ Pl TV Try.prog W cs (fun H acs => ∃ av, acs = [av] ∧ FnsX H av fns) := by
  have e1 : Try.prog.cellsOf 58 = 6 := by kernel_rfl
  obtain ⟨v, rows, rfl, csl, each, hb⟩ := tr_slice Try.underlying24 (by rw [e1]; omega) h
  obtain ⟨fns, hf⟩ := All2.of_exists (R := fun (r : List Value) (f : Fn) => (FnFits f ∧ FnWf f) ∧ Pl TV Try.prog W r (fun H acs => FnX H acs f)) (l := rows) fun i hi => by
    obtain ⟨_, z, t, hw⟩ := each i hi
    obtain ⟨f, h1, h2, h3⟩ := plx_fn t fun m hm => hz m (hw m hm)
    exact ⟨f, ⟨h1, h2⟩, h3⟩
  have hlen := hf.length
  refine ⟨fns, fun f hm => ?_, ?_, pl_imp (pl_sliceX (Q := fun (f : Fn) H acs => FnX H acs f) (fun _ _ _ _ k h => h.ext k) csl (hf.imp fun r f hr => hr.2)) ?_⟩
  · obtain ⟨i, hi, rfl⟩ := List.getElem_of_mem hm
    exact (hf.get i (by omega) hi).1
  · have := hb reachBytes hz
    rw [bF, hlen, rb] at this
    omega
  · rintro H acs ⟨av, ars, rfl, h1, h2⟩
    exact ⟨av, rfl, ars, h1, h2⟩
theorem plx_md {cs : List Value} {d : DataW A} (h : Trd enc Try.prog W 26 cs d) (hz : ∀ m ∈ d.weights Try.prog 26, m ≤ reachBytes) : ∃ m, MdFits m ∧ MdWf m ∧ Pl TV Try.prog W cs (fun H acs => MdX H acs m) := by
  obtain ⟨hl, hf⟩ := tr_struct Try.underlying26 h
  have hl4 : cs.length = 4 := hl.trans (by kernel_rfl)
  obtain ⟨z0, t0, y0⟩ : ∃ z, Trd enc Try.prog W 22 ((cs.drop 0).take (Try.prog.cellsOf 22)) z ∧ ∀ m ∈ z.weights Try.prog 22, m ∈ d.weights Try.prog 26 := hf 0 _ rfl
  obtain ⟨z1, t1, y1⟩ : ∃ z, Trd enc Try.prog W 23 ((cs.drop 1).take (Try.prog.cellsOf 23)) z ∧ ∀ m ∈ z.weights Try.prog 23, m ∈ d.weights Try.prog 26 := hf 1 _ rfl
  obtain ⟨z2, t2, y2⟩ : ∃ z, Trd enc Try.prog W 22 ((cs.drop 2).take (Try.prog.cellsOf 22)) z ∧ ∀ m ∈ z.weights Try.prog 22, m ∈ d.weights Try.prog 26 := hf 2 _ rfl
  obtain ⟨z3, t3, y3⟩ : ∃ z, Trd enc Try.prog W 24 ((cs.drop 3).take (Try.prog.cellsOf 24)) z ∧ ∀ m ∈ z.weights Try.prog 24, m ∈ d.weights Try.prog 26 := hf 3 _ rfl
  simp only [cU, cA, cFs] at t0 t1 t2 t3
  match cs, hl4 with
  | [c0, c1, c2, c3], _ =>
    obtain ⟨gs, p0, b0, w0⟩ := plx_labels t0 fun m hm => hz m (y0 m hm)
    obtain ⟨ars, p1, b1, w1⟩ := plx_pairs Try.underlying23 Try.underlying83 rfl rfl rfl Try.underlying3 Try.underlying30 (by kernel_rfl) (by kernel_rfl) (by kernel_rfl) (V := TV) t1 fun m hm => hz m (y1 m hm)
    obtain ⟨chs, p2, b2, w2⟩ := plx_labels t2 fun m hm => hz m (y2 m hm)
    obtain ⟨fns, w3, b3, p3⟩ := plx_fns t3 fun m hm => hz m (y3 m hm)
    rw [cut4.1] at p0
    rw [cut4.2.1] at p1
    rw [cut4.2.2.1] at p2
    rw [cut4.2.2.2] at p3
    rw [bA, rb] at b1
    refine ⟨⟨gs, ars, chs, fns⟩, ⟨by show gs.length < _; omega, by show ars.length < _; omega, by show chs.length < _; omega, b3, fun f hf => (w3 f hf).1⟩, ⟨w0, w1, w2, fun f hf => (w3 f hf).2⟩, ?_⟩
    have all := pl_append p0 stays_x (pl_append p1 stays_x (pl_append p2 stays_x p3))
    refine pl_imp all ?_
    rintro H acs ⟨x0, _, rfl, ⟨vg, rfl, h0⟩, x1, _, rfl, ⟨va, rfl, h1⟩, x2, _, rfl, ⟨vc, rfl, h2⟩, ⟨vf, rfl, h3⟩⟩
    exact ⟨vg, va, vc, vf, rfl, h0, h1, h2, h3⟩
theorem plx_fr {cs : List Value} {d : DataW A} (h : Trd enc Try.prog W 28 cs d) (hz : ∀ m ∈ d.weights Try.prog 28, m ≤ reachBytes) : ∃ x, FrFits x ∧ (((∀ z, z ∈ x.st → (Lit.int .u64 z).wf = true) ∧ ∀ z, z ∈ x.lo → (Lit.int .u64 z).wf = true) ∧ x.st.length ≤ 17592186043904 ∧ x.lo.length ≤ 17592186043904) ∧ Pl TV Try.prog W cs (fun H acs => FrX H acs x) := by
  obtain ⟨hl, hf⟩ := tr_struct Try.underlying28 h
  have hl2 : cs.length = 2 := hl.trans (by kernel_rfl)
  obtain ⟨z0, t0, y0⟩ : ∃ z, Trd enc Try.prog W 22 ((cs.drop 0).take (Try.prog.cellsOf 22)) z ∧ ∀ m ∈ z.weights Try.prog 22, m ∈ d.weights Try.prog 28 := hf 0 _ rfl
  obtain ⟨z1, t1, y1⟩ : ∃ z, Trd enc Try.prog W 22 ((cs.drop 1).take (Try.prog.cellsOf 22)) z ∧ ∀ m ∈ z.weights Try.prog 22, m ∈ d.weights Try.prog 28 := hf 1 _ rfl
  simp only [cU] at t0 t1
  match cs, hl2 with
  | [c0, c1], _ =>
    obtain ⟨st, p0, b0, w0⟩ := plx_labels t0 fun m hm => hz m (y0 m hm)
    obtain ⟨lo, p1, b1, w1⟩ := plx_labels t1 fun m hm => hz m (y1 m hm)
    rw [cut2.1] at p0
    rw [cut2.2] at p1
    refine ⟨⟨st, lo⟩, ⟨by show st.length < _; omega, by show lo.length < _; omega⟩, ⟨⟨w0, w1⟩, b0, b1⟩, ?_⟩
    refine pl_imp (pl_append p0 stays_x p1) ?_
    rintro H acs ⟨x0, _, rfl, ⟨vs, rfl, h0⟩, ⟨vl, rfl, h1⟩⟩
    exact ⟨vs, vl, rfl, h0, h1⟩
end
/-- A law, of what was laid. -/
theorem law_run {g : FuncId} {args : List PV} {H : AH TV} {avs : List Value} (hr : PRels (fun a => a < Vec.size H) none_ H args avs) (h : PFun E g args (valQ (isV (.s (.bool true))))) : ∃ N v H', acall E N g avs H = some (v, H') ∧ v = .bool true := by
  have := h (fun a => a < Vec.size H) none_ H avs (rel_none fun _ h => h) hr
  obtain ⟨N, v, H', h1, F', ρ', hp', w, _, _, _, h2, h3, h4⟩ := acall_of_runs (Q := fun v H' => ∃ F' ρ' hp' w, PExt (fun a => a < Vec.size H) none_ [] H F' ρ' [] H' ∧ (∀ b x, b ∈ ([] : List Nat) → none_ b = some x → ρ' b = some x) ∧ Rel F' ρ' hp' [] H' ∧ PRel F' ρ' H' w v ∧ valQ (isV (.s (.bool true))) w hp') this
  refine ⟨N, v, H', h1, ?_⟩
  cases h4
  cases h2 with
  | fr h => cases h; rfl
end Go.Proofs.Ytollibkfagjnaaa.Shape.Kit
