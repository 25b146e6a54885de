/- The shape laws: modules that are handed in. -/
import Derived.Test.YtnngilpiajgobaaShapeWalk
import Derived.Test.YtnngilpiajgobaaAM32
set_option linter.unusedVariables false
set_option linter.unusedSimpArgs false
set_option maxRecDepth 10000
namespace Go.Proofs.Ytnngilpiajgobaa.Shape
open Go.Proofs.Ytnngilpiajgobaa.AM
theorem wf_u64 {n : Int} (h : (Lit.int .u64 n).wf = true) : 0 ≤ n ∧ n < 18446744073709551616 := by
  have : IntKind.u64.min ≤ n ∧ n ≤ IntKind.u64.max := by simpa [Lit.wf] using h
  have e1 : IntKind.u64.min = 0 := by decide
  have e2 : IntKind.u64.max = 18446744073709551615 := by decide
  omega
theorem all2_map {α β : Type} {f : β → α} {l : List α} {l' : List β} (h : All2 (fun a b => a = f b) l l') : l = l'.map f := by
  induction h with
  | nil => rfl
  | cons x _ ih => rw [x, ih]; rfl
theorem rowOf_of {H : AH TV} {av : Value} {ars : List (List Value)} {zs : List Int} (h : RowS H av ars) (h2 : All2 (fun a z => a = [Value.int .u64 z]) ars zs) : RowOf H av (cellsU zs) := by
  have e := all2_map h2
  have hl : ars.length = (cellsU zs).length := by rw [e]; simp [cellsU]
  have hfl : ars.flatten = cellsU zs := by
    rw [e]
    clear e hl h h2
    induction zs with
    | nil => rfl
    | cons z zs ih => rw [List.map_cons, List.flatten_cons, ih]; rfl
  rcases h with ⟨h1, h3⟩ | ⟨b, off, ce, blk, w, lo, h1, h3, h4, h5⟩
  · refine .inl ⟨h1, ?_⟩
    rw [← hfl, h3]; rfl
  · rw [hfl] at h4 h5
    rw [hl] at h1
    exact .inr ⟨b, off, ce, blk, w, lo, h1, h3, h4, h5⟩
section
variable {A : Type} {enc : TypeId × Value → A} {W : World}
theorem pl_u64s {cs : List Value} {d : DataW A} (h : Trd enc Try.prog W 22 cs d) (hz : ∀ m ∈ d.weights Try.prog 22, m ≤ reachBytes) :
    ∃ zs, Pl TV Try.prog W cs (fun H acs => ∃ av, acs = [av] ∧ RowOf H av (cellsU zs)) ∧ (zs.length + 1) * 8 ≤ room := by
  have e1 : Try.prog.cellsOf 48 = 1 := by kernel_rfl
  have e2 : Try.prog.bytesOf 48 = 8 := by kernel_rfl
  have hrb : reachBytes = 140737488351232 := by decide
  have hro : room = 140737488355328 := rfl
  obtain ⟨v, rows, rfl, csl, each, hb⟩ := tr_slice Try.underlying22 (by rw [e1]; omega) h
  obtain ⟨zs, hzs⟩ := All2.of_exists (R := fun (r : List Value) (z : Int) => r = [Value.int .u64 z]) (l := rows) fun i hi => by
    obtain ⟨_, z, hz, _⟩ := each i hi
    obtain ⟨x, hx, _⟩ := tr_int Try.underlying48 hz
    exact ⟨x, hx⟩
  have hlen := hzs.length
  refine ⟨zs, pl_imp (pl_slice (Q := fun (z : Int) _ acs => acs = [Value.int .u64 z]) (fun _ _ _ _ _ h => h) csl (hzs.imp fun r z hr => ?_)) ?_, ?_⟩
  · subst hr
    exact pl_flat rfl
  · rintro H acs ⟨av, ars, rfl, h1, h2⟩
    exact ⟨av, rfl, rowOf_of h1 h2⟩
  · have := hb reachBytes hz
    rw [e2, hlen] at this
    omega
theorem pl_pairs {t e : TypeId} {k1 k2 : IntKind} {fs : Array Field} {f1 f2 : Field} (ht : Try.prog.underlying t = some (.slice e)) (he : Try.prog.underlying e = some (.struct fs)) (hfs : fs = #[f1, f2]) (o1 : f1.offset = 0) (o2 : f2.offset = 1)
    (u1 : Try.prog.underlying f1.type = some (.int k1)) (u2 : Try.prog.underlying f2.type = some (.int k2)) (c1 : Try.prog.cellsOf f1.type = 1) (c2 : Try.prog.cellsOf f2.type = 1) (ce : Try.prog.cellsOf e = 2) (be : Try.prog.bytesOf e = 16)
    {cs : List Value} {d : DataW A} (h : Trd enc Try.prog W t cs d) (hz : ∀ m ∈ d.weights Try.prog t, m ≤ reachBytes) :
    ∃ l : List (Int × Int), Pl TV Try.prog W cs (fun H acs => ∃ av, acs = [av] ∧ RowS H av (l.map fun p => [Value.int k1 p.1, Value.int k2 p.2])) ∧ (l.length + 1) * 16 ≤ room := by
  have hrb : reachBytes = 140737488351232 := by decide
  have hro : room = 140737488355328 := rfl
  subst hfs
  obtain ⟨v, rows, rfl, csl, each, hb⟩ := tr_slice ht (by rw [ce]; omega) h
  obtain ⟨zs, hzs⟩ := All2.of_exists (R := fun (r : List Value) (p : Int × Int) => r = [Value.int k1 p.1, Value.int k2 p.2]) (l := rows) fun i hi => by
    obtain ⟨hl, z, hz, _⟩ := each i hi
    obtain ⟨_, hf⟩ := tr_struct he hz
    obtain ⟨z1, t1, _⟩ := hf 0 f1 rfl
    obtain ⟨z2, t2, _⟩ := hf 1 f2 rfl
    rw [o1, c1] at t1
    rw [o2, c2] at t2
    obtain ⟨a, ha, _⟩ := tr_int u1 t1
    obtain ⟨b, hb, _⟩ := tr_int u2 t2
    rw [ce] at hl
    generalize rows[i] = r at *
    match r, hl with
    | [x, y], _ =>
      simp at ha hb
      exact ⟨(a, b), by rw [ha, hb]⟩
  have hlen := hzs.length
  refine ⟨zs, pl_imp (pl_slice (Q := fun (p : Int × Int) _ acs => acs = [Value.int k1 p.1, Value.int k2 p.2]) (fun _ _ _ _ _ h => h) csl (hzs.imp fun r z hr => ?_)) ?_, ?_⟩
  · subst hr
    exact pl_flat rfl
  · rintro H acs ⟨av, ars, rfl, h1, h2⟩
    have e := all2_map h2
    subst e
    exact ⟨av, rfl, h1⟩
  · have := hb reachBytes hz
    rw [be, hlen] at this
    omega
theorem stays_row {zs : List Int} : Stays (fun (H : AH TV) acs => ∃ av, acs = [av] ∧ RowOf H av (cellsU zs)) := fun H H' acs k ⟨av, h1, h2⟩ => ⟨av, h1, h2.ext k⟩
theorem stays_rows {es : List (List Value)} : Stays (fun (H : AH TV) acs => ∃ av, acs = [av] ∧ RowS H av es) := fun H H' acs k ⟨av, h1, h2⟩ => ⟨av, h1, h2.ext k⟩
theorem stays_eq {cs : List Value} : Stays (fun (_ : AH TV) acs => acs = cs) := fun _ _ _ _ h => h
theorem cut1 {c0 c1 c2 c3 c4 c5 : Value} : (([c0, c1, c2, c3, c4, c5].drop 0).take 1 = [c0]) ∧ (([c0, c1, c2, c3, c4, c5].drop 1).take 1 = [c1]) ∧ (([c0, c1, c2, c3, c4, c5].drop 2).take 1 = [c2]) ∧ (([c0, c1, c2, c3, c4, c5].drop 3).take 1 = [c3]) ∧ (([c0, c1, c2, c3, c4, c5].drop 4).take 1 = [c4]) ∧ (([c0, c1, c2, c3, c4, c5].drop 5).take 1 = [c5]) := ⟨rfl, rfl, rfl, rfl, rfl, rfl⟩
theorem pl_code {cs : List Value} {d : DataW A} (h : Trd enc Try.prog W 49 cs d) (hz : ∀ m ∈ d.weights Try.prog 49, m ≤ reachBytes) :
    ∃ l : List (Int × Int), Pl TV Try.prog W cs (fun H acs => ∃ av, acs = [av] ∧ RowS H av (cellsC l)) ∧ (l.length + 1) * 16 ≤ room :=
  pl_pairs Try.underlying49 Try.underlying34 rfl rfl rfl Try.underlying3 Try.underlying2 (by kernel_rfl) (by kernel_rfl) (by kernel_rfl) (by kernel_rfl) h hz
theorem pl_arrays {cs : List Value} {d : DataW A} (h : Trd enc Try.prog W 29 cs d) (hz : ∀ m ∈ d.weights Try.prog 29, m ≤ reachBytes) :
    ∃ l : List (Int × Int), Pl TV Try.prog W cs (fun H acs => ∃ av, acs = [av] ∧ RowS H av (cellsA l)) ∧ (l.length + 1) * 16 ≤ room :=
  pl_pairs Try.underlying29 Try.underlying55 rfl rfl rfl Try.underlying3 Try.underlying48 (by kernel_rfl) (by kernel_rfl) (by kernel_rfl) (by kernel_rfl) h hz
theorem pl_fn {r : List Value} {d : DataW A} (h : Trd enc Try.prog W 51 r d) (hz : ∀ m ∈ d.weights Try.prog 51, m ≤ reachBytes) : ∃ f, Fits f ∧ Pl TV Try.prog W r (fun H acs => FnAt H acs f) := by
  obtain ⟨hl, hf⟩ := tr_struct Try.underlying51 h
  have hl6 : r.length = 6 := hl.trans (by kernel_rfl)
  have e22 : Try.prog.cellsOf 22 = 1 := by kernel_rfl
  have e48 : Try.prog.cellsOf 48 = 1 := by kernel_rfl
  have e3 : Try.prog.cellsOf 3 = 1 := by kernel_rfl
  have e49 : Try.prog.cellsOf 49 = 1 := by kernel_rfl
  obtain ⟨z0, t0, _⟩ : ∃ z, Trd enc Try.prog W 48 ((r.drop 0).take (Try.prog.cellsOf 48)) z ∧ ∀ m ∈ z.weights Try.prog 48, m ∈ d.weights Try.prog 51 := hf 0 _ rfl
  obtain ⟨z1, t1, y1⟩ : ∃ z, Trd enc Try.prog W 22 ((r.drop 1).take (Try.prog.cellsOf 22)) z ∧ ∀ m ∈ z.weights Try.prog 22, m ∈ d.weights Try.prog 51 := hf 1 _ rfl
  obtain ⟨z2, t2, y2⟩ : ∃ z, Trd enc Try.prog W 22 ((r.drop 2).take (Try.prog.cellsOf 22)) z ∧ ∀ m ∈ z.weights Try.prog 22, m ∈ d.weights Try.prog 51 := hf 2 _ rfl
  obtain ⟨z3, t3, _⟩ : ∃ z, Trd enc Try.prog W 3 ((r.drop 3).take (Try.prog.cellsOf 3)) z ∧ ∀ m ∈ z.weights Try.prog 3, m ∈ d.weights Try.prog 51 := hf 3 _ rfl
  obtain ⟨z4, t4, _⟩ : ∃ z, Trd enc Try.prog W 3 ((r.drop 4).take (Try.prog.cellsOf 3)) z ∧ ∀ m ∈ z.weights Try.prog 3, m ∈ d.weights Try.prog 51 := hf 4 _ rfl
  obtain ⟨z5, t5, y5⟩ : ∃ z, Trd enc Try.prog W 49 ((r.drop 5).take (Try.prog.cellsOf 49)) z ∧ ∀ m ∈ z.weights Try.prog 49, m ∈ d.weights Try.prog 51 := hf 5 _ rfl
  simp only [e22, e48, e3, e49] at t0 t1 t2 t3 t4 t5
  match r, hl6 with
  | [c0, c1, c2, c3, c4, c5], _ =>
    obtain ⟨a0, q0, _⟩ := tr_int Try.underlying48 t0
    obtain ⟨ps, p1, b1⟩ := pl_u64s t1 fun m hm => hz m (y1 m hm)
    obtain ⟨rs, p2, b2⟩ := pl_u64s t2 fun m hm => hz m (y2 m hm)
    obtain ⟨a3, q3, _⟩ := tr_int Try.underlying3 t3
    obtain ⟨a4, q4, _⟩ := tr_int Try.underlying3 t4
    obtain ⟨code, p5, b5⟩ := pl_code t5 fun m hm => hz m (y5 m hm)
    rw [cut1.1] at q0
    rw [cut1.2.2.2.1] at q3
    rw [cut1.2.2.2.2.1] at q4
    rw [cut1.2.1] at p1
    rw [cut1.2.2.1] at p2
    rw [cut1.2.2.2.2.2] at p5
    simp only [List.cons.injEq, and_true] at q0 q3 q4
    subst q0 q3 q4
    refine ⟨⟨a0, ps, rs, a3, a4, code⟩, ⟨b1, b2, b5⟩, ?_⟩
    have p0 : Pl TV Try.prog W [Value.int .u64 a0] (fun _ acs => acs = [Value.int .u64 a0]) := pl_flat rfl
    have p3 : Pl TV Try.prog W [Value.int .i64 a3] (fun _ acs => acs = [Value.int .i64 a3]) := pl_flat rfl
    have p4 : Pl TV Try.prog W [Value.int .i64 a4] (fun _ acs => acs = [Value.int .i64 a4]) := pl_flat rfl
    have all := pl_append p0 stays_eq (pl_append p1 stays_row (pl_append p2 stays_row (pl_append p3 stays_eq (pl_append p4 stays_eq p5))))
    refine pl_imp all ?_
    rintro H acs ⟨x0, _, rfl, rfl, x1, _, rfl, ⟨vp, rfl, h1⟩, x2, _, rfl, ⟨vr, rfl, h2⟩, x3, _, rfl, rfl, x4, _, rfl, rfl, ⟨vc, rfl, h5⟩⟩
    exact ⟨vp, vr, vc, rfl, h1, h2, h5⟩
theorem pl_fns {cs : List Value} {d : DataW A} (h : Trd enc Try.prog W 30 cs d) (hz : ∀ m ∈ d.weights Try.prog 30, m ≤ reachBytes) :
    ∃ fns : List Fn, (∀ f ∈ fns, Fits f) ∧ (fns.length + 1) * 96 ≤ room ∧ Pl TV Try.prog W cs (fun H acs => ∃ av, acs = [av] ∧ Fns H av fns) := by
  have e1 : Try.prog.cellsOf 51 = 6 := by kernel_rfl
  have e2 : Try.prog.bytesOf 51 = 96 := by kernel_rfl
  have hrb : reachBytes = 140737488351232 := by decide
  have hro : room = 140737488355328 := rfl
  obtain ⟨v, rows, rfl, csl, each, hb⟩ := tr_slice Try.underlying30 (by rw [e1]; omega) h
  obtain ⟨fns, hf⟩ := All2.of_exists (R := fun (r : List Value) (f : Fn) => Fits f ∧ Pl TV Try.prog W r (fun H acs => FnAt H acs f)) (l := rows) fun i hi => by
    obtain ⟨_, z, t, hw⟩ := each i hi
    exact pl_fn t fun m hm => hz m (hw m hm)
  have hlen := hf.length
  refine ⟨fns, fun f hm => ?_, ?_, pl_imp (pl_slice (Q := fun (f : Fn) H acs => FnAt H acs f) (fun _ _ _ _ k h => h.ext k) csl (hf.imp fun r f hr => hr.2)) ?_⟩
  · obtain ⟨i, hi, rfl⟩ := List.getElem_of_mem hm
    exact (hf.get i (by omega) hi).1
  · have := hb reachBytes hz
    rw [e2, hlen] at this
    omega
  · rintro H acs ⟨av, ars, rfl, h1, h2⟩
    exact ⟨av, rfl, ars, h1, h2.length, fun i q1 q2 => h2.get i q1 q2⟩
theorem cut4 {c0 c1 c2 c3 : Value} : (([c0, c1, c2, c3].drop 0).take 1 = [c0]) ∧ (([c0, c1, c2, c3].drop 1).take 1 = [c1]) ∧ (([c0, c1, c2, c3].drop 2).take 1 = [c2]) ∧ (([c0, c1, c2, c3].drop 3).take 1 = [c3]) := ⟨rfl, rfl, rfl, rfl⟩
theorem stays_fns {fns : List Fn} : Stays (fun (H : AH TV) acs => ∃ av, acs = [av] ∧ Fns H av fns) := fun H H' acs k ⟨av, h1, h2⟩ => ⟨av, h1, h2.ext k⟩
/-- A module that is handed in. -/
theorem pl_md {cs : List Value} {d : DataW A} (h : Trd enc Try.prog W 32 cs d) (hz : ∀ m ∈ d.weights Try.prog 32, m ≤ reachBytes) : ∃ m, MdFits m ∧ Pl TV Try.prog W cs (fun H acs => MdAt H (.agg acs.toArray) m) := by
  obtain ⟨hl, hf⟩ := tr_struct Try.underlying32 h
  have hl4 : cs.length = 4 := hl.trans (by kernel_rfl)
  have e22 : Try.prog.cellsOf 22 = 1 := by kernel_rfl
  have e29 : Try.prog.cellsOf 29 = 1 := by kernel_rfl
  have e30 : Try.prog.cellsOf 30 = 1 := by kernel_rfl
  obtain ⟨z0, t0, y0⟩ : ∃ z, Trd enc Try.prog W 22 ((cs.drop 0).take (Try.prog.cellsOf 22)) z ∧ ∀ m ∈ z.weights Try.prog 22, m ∈ d.weights Try.prog 32 := hf 0 _ rfl
  obtain ⟨z1, t1, y1⟩ : ∃ z, Trd enc Try.prog W 29 ((cs.drop 1).take (Try.prog.cellsOf 29)) z ∧ ∀ m ∈ z.weights Try.prog 29, m ∈ d.weights Try.prog 32 := hf 1 _ rfl
  obtain ⟨z2, t2, y2⟩ : ∃ z, Trd enc Try.prog W 22 ((cs.drop 2).take (Try.prog.cellsOf 22)) z ∧ ∀ m ∈ z.weights Try.prog 22, m ∈ d.weights Try.prog 32 := hf 2 _ rfl
  obtain ⟨z3, t3, y3⟩ : ∃ z, Trd enc Try.prog W 30 ((cs.drop 3).take (Try.prog.cellsOf 30)) z ∧ ∀ m ∈ z.weights Try.prog 30, m ∈ d.weights Try.prog 32 := hf 3 _ rfl
  simp only [e22, e29, e30] at t0 t1 t2 t3
  match cs, hl4 with
  | [c0, c1, c2, c3], _ =>
    obtain ⟨gs, p0, b0⟩ := pl_u64s t0 fun m hm => hz m (y0 m hm)
    obtain ⟨ars, p1, b1⟩ := pl_arrays t1 fun m hm => hz m (y1 m hm)
    obtain ⟨chs, p2, b2⟩ := pl_u64s t2 fun m hm => hz m (y2 m hm)
    obtain ⟨fns, b4, b3, p3⟩ := pl_fns t3 fun m hm => hz m (y3 m hm)
    rw [cut4.1] at p0
    rw [cut4.2.1] at p1
    rw [cut4.2.2.1] at p2
    rw [cut4.2.2.2] at p3
    refine ⟨⟨gs, ars, chs, fns⟩, ⟨b0, b1, b2, b3, b4⟩, ?_⟩
    have all := pl_append p0 stays_row (pl_append p1 stays_rows (pl_append p2 stays_row p3))
    refine pl_imp all ?_
    rintro H acs ⟨x0, _, rfl, ⟨vg, rfl, h0⟩, x1, _, rfl, ⟨va, rfl, h1⟩, x2, _, rfl, ⟨vc, rfl, h2⟩, ⟨vf, rfl, h3⟩⟩
    exact ⟨vg, va, vc, vf, rfl, h0, h1, h2, h3⟩
end
end Go.Proofs.Ytnngilpiajgobaa.Shape
