/- Modules as values are modules as the contracts of shape's functions read them. -/
import Derived.Test.YtollibkfagjnaaaShapeKitC
import Derived.Test.YtollibkfagjnaaaShapeCheck
set_option linter.unusedVariables false
set_option linter.unusedSimpArgs false
set_option maxRecDepth 10000
namespace Go.Proofs.Ytollibkfagjnaaa.Shape.Kit
open Go.Proofs.Ytollibkfagjnaaa.AM
/-- The same, for the contracts. -/
def toF (f : Fn) : Shape.Fn := ⟨f.lvl, f.ps, f.rs, f.loc, f.stk, f.code⟩
def toM (m : Md) : Shape.Md := ⟨m.gs, m.arrays, m.chans, m.fns.map toF⟩
section
variable {F : Nat → Prop} {H : AH TV}
/-- Rows of plain values, by what they are. -/
theorem rows_plain {sz n k : Nat} {row : Nat → List PV} {v : Value} {ts : List (List Value)} (h : FRel F H (.frz sz n k row) v) (hn : ts.length = n) (hs : Sized sz ts) (hr : ∀ (i : Nat) (t : List Value), ts[i]? = some t → row i = t.map .s) : RowS H v ts := by
  obtain ⟨es, h1, h2, h3, h4⟩ := frel_rows h
  have : es = ts := by
    refine List.ext_getElem (by omega) fun i q1 q2 => ?_
    have e1 : es[i]? = some es[i] := List.getElem?_eq_getElem q1
    have e2 : ts[i]? = some ts[i] := List.getElem?_eq_getElem q2
    have l1 := h3 _ (List.getElem_mem q1)
    have l2 := hs _ (List.getElem_mem q2)
    refine List.ext_getElem (by omega) fun j r1 r2 => ?_
    have := h4 i es[i] j (.s (ts[i])[j]) (es[i])[j] e1 (by rw [hr i _ e2, List.getElem?_map, List.getElem?_eq_getElem r2]; rfl) (List.getElem?_eq_getElem r1)
    exact frel_s this
  rwa [this] at h1
theorem row_labels {k : Nat} {xs ys : List Int} {v : Value} (h : FRel F H (.frz 1 xs.length k (rowI .u64 ys)) v) (he : ∀ i, i < xs.length → ys.getD i 0 = xs.getD i 0) : RowOf H v (Shape.cellsU xs) := by
  have hr := rows_plain h (ts := xs.map fun z => [Value.int .u64 z]) (by simp) (fun e he => by obtain ⟨z, _, rfl⟩ := List.mem_map.1 he; rfl) fun i t ht => by
    rw [List.getElem?_map] at ht
    cases hz : xs[i]? with
    | none => rw [hz] at ht; cases ht
    | some z =>
      rw [hz] at ht; cases ht
      have hi := (List.getElem?_eq_some_iff.1 hz).1
      simp only [rowI, he i hi, List.map_cons, List.map_nil, List.getD_eq_getElem?_getD, hz, Option.getD_some]
  have hfl : (xs.map fun z => [Value.int .u64 z]).flatten = Shape.cellsU xs := by
    clear hr h he
    induction xs with
    | nil => rfl
    | cons z zs ih => rw [List.map_cons, List.flatten_cons, ih]; rfl
  have hcl : (Shape.cellsU xs).length = xs.length := by simp [Shape.cellsU]
  rcases hr with ⟨h1, h3⟩ | ⟨b, off, ce, blk, w, lo, h1, h3, h4, h5⟩
  · refine .inl ⟨h1, ?_⟩
    rw [← hfl, h3]; rfl
  · rw [hfl] at h4 h5
    rw [List.length_map] at h1
    exact .inr ⟨b, off, ce, blk, w, lo, by rw [hcl]; exact h1, h3, h4, h5⟩
theorem row_code {k : Nat} {xs ys : List (Int × Int)} {v : Value} (h : FRel F H (.frz 2 xs.length k (rowC ys)) v) (he : ∀ i, i < xs.length → ys.getD i (0, 0) = xs.getD i (0, 0)) : RowS H v (Shape.cellsC xs) :=
  rows_plain h (by simp [Shape.cellsC]) (Shape.sizedC xs) fun i t ht => by
    simp only [Shape.cellsC, List.getElem?_map] at ht
    cases hz : xs[i]? with
    | none => rw [hz] at ht; cases ht
    | some z =>
      rw [hz] at ht; cases ht
      have hi := (List.getElem?_eq_some_iff.1 hz).1
      simp only [rowC, he i hi, List.map_cons, List.map_nil, List.getD_eq_getElem?_getD, hz, Option.getD_some]
theorem row_arrays {k : Nat} {xs ys : List (Int × Int)} {v : Value} (h : FRel F H (.frz 2 xs.length k (rowA ys)) v) (he : ∀ i, i < xs.length → ys.getD i (0, 0) = xs.getD i (0, 0)) : RowS H v (Shape.cellsA xs) :=
  rows_plain h (by simp [Shape.cellsA]) (Shape.sizedA xs) fun i t ht => by
    simp only [Shape.cellsA, List.getElem?_map] at ht
    cases hz : xs[i]? with
    | none => rw [hz] at ht; cases ht
    | some z =>
      rw [hz] at ht; cases ht
      have hi := (List.getElem?_eq_some_iff.1 hz).1
      simp only [rowA, he i hi, List.map_cons, List.map_nil, List.getD_eq_getElem?_getD, hz, Option.getD_some]
/-- Six cells of a function. -/
theorem cells_fn {f : Fn} {e : List Value} {cs : List PV} (hl : e.length = 6) (hc : cs = cellsF f ∨ cs = lentCells f) (h : ∀ (j : Nat) (c : PV) (x : Value), cs[j]? = some c → e[j]? = some x → FRel F H c x) : Shape.FnAt H e (toF f) := by
  match e, hl with
  | [x0, x1, x2, x3, x4, x5], _ =>
    rcases hc with rfl | rfl
    · have e0 := frel_s (h 0 _ x0 rfl rfl)
      have e1 := h 1 _ x1 rfl rfl
      have e2 := h 2 _ x2 rfl rfl
      have e3 := frel_s (h 3 _ x3 rfl rfl)
      have e4 := frel_s (h 4 _ x4 rfl rfl)
      have e5 := h 5 _ x5 rfl rfl
      subst e0 e3 e4
      exact ⟨x1, x2, x5, rfl, row_labels e1 fun _ _ => rfl, row_labels e2 fun _ _ => rfl, row_code e5 fun _ _ => rfl⟩
    · have e0 := frel_s (h 0 _ x0 rfl rfl)
      have e1 := h 1 _ x1 rfl rfl
      have e2 := h 2 _ x2 rfl rfl
      have e3 := frel_s (h 3 _ x3 rfl rfl)
      have e4 := frel_s (h 4 _ x4 rfl rfl)
      have e5 := h 5 _ x5 rfl rfl
      subst e0 e3 e4
      exact ⟨x1, x2, x5, rfl, row_labels e1 fun i hi => getD_pre hi, row_labels e2 fun i hi => getD_pre hi, row_code e5 fun i hi => getD_pre hi⟩
theorem fns_at {k : Nat} {fs : List Fn} {row : Nat → List PV} {v : Value} (h : FRel F H (.frz 6 fs.length k row) v) (hr : ∀ i, i < fs.length → row i = cellsF (fs.getD i default) ∨ row i = lentCells (fs.getD i default)) : Shape.Fns H v (fs.map toF) := by
  obtain ⟨es, h1, h2, h3, h4⟩ := frel_rows h
  refine ⟨es, h1, by simpa using h2, fun i q1 q2 => ?_⟩
  have hi : i < fs.length := by omega
  have hg : fs.getD i default = fs[i] := by simp [List.getD_eq_getElem?_getD, hi]
  rw [List.getElem_map, ← hg]
  exact cells_fn (h3 _ (List.getElem_mem q1)) (hr i hi) fun j c x r1 r2 => h4 i es[i] j c x (List.getElem?_eq_getElem q1) r1 r2
/-- A module, as it is or lent. -/
theorem md_at {m : Md} {v : Value} {ρ : PR} {V : PV} (hV : V = encM m ∨ V = lentM m) (h : PRel F ρ H V v) : Shape.MdAt H v (toM m) := by
  rcases hV with rfl | rfl
  · obtain ⟨l, rfl, hl⟩ := PRel.agg_inv h
    match l, hl.len with
    | [x0, x1, x2, x3], _ =>
      have e0 := (hl.at' 0 _ x0 rfl rfl).nl rfl
      have e1 := (hl.at' 1 _ x1 rfl rfl).nl rfl
      have e2 := (hl.at' 2 _ x2 rfl rfl).nl rfl
      have e3 := (hl.at' 3 _ x3 rfl rfl).nl rfl
      exact ⟨x0, x1, x2, x3, rfl, row_labels e0 fun _ _ => rfl, row_arrays e1 fun _ _ => rfl, row_labels e2 fun _ _ => rfl, fns_at e3 fun _ _ => .inl rfl⟩
  · obtain ⟨l, rfl, hl⟩ := PRel.agg_inv h
    match l, hl.len with
    | [x0, x1, x2, x3], _ =>
      have e0 := (hl.at' 0 _ x0 rfl rfl).nl rfl
      have e1 := (hl.at' 1 _ x1 rfl rfl).nl rfl
      have e2 := (hl.at' 2 _ x2 rfl rfl).nl rfl
      have e3 := (hl.at' 3 _ x3 rfl rfl).nl rfl
      exact ⟨x0, x1, x2, x3, rfl, row_labels e0 fun i hi => getD_pre hi, row_arrays e1 fun i hi => getD_pre hi, row_labels e2 fun i hi => getD_pre hi, fns_at e3 fun i hi => .inr (if_pos hi)⟩
end
theorem fits_of {m : Md} (hf : MdFits m) : Shape.MdFits (toM m) := by
  have hro : room = 140737488355328 := rfl
  have f1 := hf.gs
  have f2 := hf.arrays
  have f3 := hf.chans
  have f4 := hf.fns
  refine ⟨?_, ?_, ?_, ?_, fun f hm => ?_⟩
  · show (m.gs.length + 1) * 8 ≤ room; omega
  · show (m.arrays.length + 1) * 16 ≤ room; omega
  · show (m.chans.length + 1) * 8 ≤ room; omega
  · show ((m.fns.map toF).length + 1) * 96 ≤ room; rw [List.length_map]; omega
  · obtain ⟨g, hg, rfl⟩ := List.mem_map.1 hm
    have := hf.each g hg
    have g1 := this.ps
    have g2 := this.rs
    have g3 := this.cd
    refine ⟨?_, ?_, ?_⟩
    · show (g.ps.length + 1) * 8 ≤ room; omega
    · show (g.rs.length + 1) * 8 ≤ room; omega
    · show (g.code.length + 1) * 16 ≤ room; omega
/-- The first fault of raw code. -/
def checkQ (m : Md) : PV → Prop := fun v => ∃ e f a : Int, v = .agg [i64 e, i64 f, i64 a] ∧ Shape.IsCheck (toM m) e f a
theorem one_arg {F : Nat → Prop} {H : AH TV} {V : PV} {avs : List Value} (h : PRels F none_ H [V] avs) : ∃ v, avs = [v] ∧ PRel F none_ H V v := by
  match avs, h.len with
  | [v], _ => exact ⟨v, rfl, h.at' 0 _ v rfl rfl⟩
theorem two_args {F : Nat → Prop} {H : AH TV} {V W : PV} {avs : List Value} (h : PRels F none_ H [V, W] avs) : ∃ v w, avs = [v, w] ∧ PRel F none_ H V v ∧ PRel F none_ H W w := by
  match avs, h.len with
  | [v, w], _ => exact ⟨v, w, rfl, h.at' 0 _ v rfl rfl, h.at' 1 _ w rfl rfl⟩
theorem fault_rel {F : Nat → Prop} {H : AH TV} (e f a : Int) : PRel F none_ H (.agg [i64 e, i64 f, i64 a]) (.agg #[.int .i64 e, .int .i64 f, .int .i64 a]) := by
  have := PRels.cons (F := F) (ρ := none_) (H := H) (.fr (.s (.int .i64 e))) (.cons (.fr (.s (.int .i64 f))) (.cons (.fr (.s (.int .i64 a))) .nil))
  exact .agg this.len this.at'
theorem scheck_ok {m : Md} {V : PV} (hV : V = encM m ∨ V = lentM m) (hf : MdFits m) : PFun E 60 [V] (valQ (checkQ m)) := pfun_of fun F H avs _ ha => by
  obtain ⟨v, rfl, hv⟩ := one_arg ha
  exact (Shape.scheck_ok (md_at hV hv) (fits_of hf)).mono fun r ⟨e, f, a, h1, h2, k⟩ => ⟨_, k, by rw [h1]; exact fault_rel e f a, e, f, a, rfl, h2⟩
theorem slocals_ok {m : Md} {V : PV} {f : Int} (hV : V = encM m ∨ V = lentM m) (hf : MdFits m) : PFun E 53 [V, i64 f] (valQ (isV (i64 (Shape.locSpec (toM m) f)))) := pfun_of fun F H avs _ ha => by
  obtain ⟨v, w, rfl, hv, hw⟩ := two_args ha
  obtain rfl := frel_s (hw.nl rfl)
  exact (Shape.locals_ok (f := f) (md_at hV hv) (fits_of hf)).mono fun r ⟨h1, k⟩ => ⟨_, k, by rw [h1]; exact .fr (.s _), rfl⟩
end Go.Proofs.Ytollibkfagjnaaa.Shape.Kit
