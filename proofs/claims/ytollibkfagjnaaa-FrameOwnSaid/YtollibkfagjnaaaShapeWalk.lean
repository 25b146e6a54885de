/- The shape laws: contracts of the functions that they reach. -/
import Derived.Test.YtollibkfagjnaaaShapeCode
import Derived.Test.YtollibkfagjnaaaAMb
set_option linter.unusedVariables false
set_option linter.unusedSimpArgs false
set_option maxRecDepth 10000
namespace Go.Proofs.Ytollibkfagjnaaa.Shape
open Go.Proofs.Ytollibkfagjnaaa.AM
theorem pureRun_bind {α β : Type} (P : Program) (m : Sem α) (f : α → Sem β) : pureRun P (m >>= f) = (pureRun P m).bind fun a => pureRun P (f a) := by
  induction m with
  | pure a => rfl
  | program k ih => exact ih P
  | mark s k ih => exact ih
  | _ => rfl
theorem pureRun_pure {α : Type} (P : Program) (a : α) : pureRun P (pure a : Sem α) = some a := rfl
def cellsU (l : List Int) : List Value := l.map (.int .u64)
theorem ares_cell {T : AT} {H : AH TV} {t : Nat} {n : Option Nat} {b off : Nat} {cs : List Value} {w : Bool} {lo : Nat} {v : Value} {rs : List ARes} {vs : List Value} (ht : T[t]? = some (.pointer (some ⟨b, off, none⟩))) (hg : Vec.get H b = some (.arr cs w lo)) (hc : acells cs n off = some v) (hr : ares T H rs = some vs) : ares T H (.cell t n :: rs) = some (v :: vs) := by
  simp only [ares, x1, ht, aload, arow, hg, hc, hr]
theorem ares_tmp {T : AT} {H : AH TV} {t : Nat} {v : Value} {rs : List ARes} {vs : List Value} (ht : T[t]? = some v) (hr : ares T H rs = some vs) : ares T H (.tmp t :: rs) = some (v :: vs) := by
  simp only [ares, ht, hr]
/-- A row that was lent. -/
def Lent (H : AH TV) (b : Nat) (l : List Int) : Prop := Vec.get H b = some (.arr (cellsU l ++ [.int .u64 7171]) true 0)
def lentV' (b n : Nat) : Value := .slice (some ⟨b, 0, none⟩) n (2 * (n + 1))
def lentV (b : Nat) (l : List Int) : Value := .slice (some ⟨b, 0, none⟩) l.length (2 * (l.length + 1))
theorem does_flat {T L : List Value} {H : AH TV} {Q : Value → AH TV → Prop} {o : AM.FOp} {l : List AM.Src} {vs : List Value} {v : Value} (he : evs (sev T L) l = some vs) (hf : aflat Try.prog o vs = some v) (hq : Q v H) : ADoes E T L (.flat o l) H Q :=
  does_op v H (by
    show withH H (AM.xs (aflat Try.prog o) (sev T L) l) = _
    simp only [AM.xs, he, hf, withH]) hq
def cellsC (l : List (Int × Int)) : List (List Value) := l.map fun p => [.int .i64 p.1, .int .i64 p.2]
theorem sizedC (l : List (Int × Int)) : Sized 2 (cellsC l) := fun e he => by
  obtain ⟨p, _, rfl⟩ := List.mem_map.1 he; rfl
theorem lenC (l : List (Int × Int)) : (cellsC l).length = l.length := by simp [cellsC]
theorem atC {v : Value} {H : AH TV} {l : List (Int × Int)} (h : RowS H v (cellsC l)) {i : Nat} (hi : i < l.length) : ∃ b off ce blk w lo, v = .slice (some ⟨b, off, none⟩) l.length ce ∧ Vec.get H b = some (.arr blk w lo) ∧
    (blk.drop (off + i * 2)).take 2 = [.int .i64 (l[i]).1, .int .i64 (l[i]).2] ∧ off + i * 2 + 2 ≤ blk.length := by
  obtain ⟨b, off, ce, blk, w, lo, e, g, q, hb⟩ := h.at (sizedC l) (i := i) (by rw [lenC]; exact hi)
  rw [lenC] at e
  refine ⟨b, off, ce, blk, w, lo, e, g, ?_, hb⟩
  rw [q]; simp [cellsC]
theorem lenSC {v : Value} {H : AH TV} {l : List (Int × Int)} (h : RowS H v (cellsC l)) : ∃ a c, v = .slice a l.length c := by
  obtain ⟨a, c, e⟩ := h.len
  rw [lenC] at e
  exact ⟨a, c, e⟩
/-- Code that was lent. -/
def markC : List Value := [.int .i64 (-71), .int .i64 0]
def LentC (H : AH TV) (b : Nat) (l : List (Int × Int)) : Prop := Vec.get H b = some (.arr (cellsC l ++ [markC]).flatten true 0)
theorem lentC_row {H : AH TV} {b : Nat} {l : List (Int × Int)} (h : LentC H b l) : RowS H (lentV' b l.length) (cellsC l) :=
  .inr ⟨b, 0, _, _, _, _, by rw [lenC]; rfl, h, by simp, by simp [List.take_append_of_le_length]⟩
structure Fn where
  lvl : Int
  ps : List Int
  rs : List Int
  locals : Int
  stack : Int
  code : List (Int × Int)
def fnCells (f : Fn) (vp vr vc : Value) : List Value := [.int .u64 f.lvl, vp, vr, .int .i64 f.locals, .int .i64 f.stack, vc]
/-- A function as it lies in a row. -/
def FnAt (H : AH TV) (e : List Value) (f : Fn) : Prop := ∃ vp vr vc, e = fnCells f vp vr vc ∧ RowOf H vp (cellsU f.ps) ∧ RowOf H vr (cellsU f.rs) ∧ RowS H vc (cellsC f.code)
theorem FnAt.ext {H H' : AH TV} {e : List Value} {f : Fn} (h : FnAt H e f) (k : Keeps H H') : FnAt H' e f := by
  obtain ⟨vp, vr, vc, rfl, h1, h2, h3⟩ := h
  exact ⟨vp, vr, vc, rfl, h1.ext k, h2.ext k, h3.ext k⟩
def Fits (f : Fn) : Prop := (f.ps.length + 1) * 8 ≤ room ∧ (f.rs.length + 1) * 8 ≤ room ∧ (f.code.length + 1) * 16 ≤ room
/-- A function that was lent; its rows are none of 'ob'. -/
def LFn (H : AH TV) (ob : Option Nat) (e : List Value) (f : Fn) : Prop := ∃ b1 b2 b3, e = fnCells f (lentV b1 f.ps) (lentV b2 f.rs) (lentV' b3 f.code.length) ∧ Lent H b1 f.ps ∧ Lent H b2 f.rs ∧ LentC H b3 f.code ∧ some b1 ≠ ob ∧ some b2 ≠ ob ∧ some b3 ≠ ob
theorem lent_row {H : AH TV} {b : Nat} {l : List Int} (h : Lent H b l) : RowOf H (lentV b l) (cellsU l) := by
  have hlen : (cellsU l).length = l.length := by simp [cellsU]
  exact .inr ⟨b, 0, _, _, _, _, by rw [hlen]; rfl, h, by simp, by simp [hlen]⟩
theorem LFn.fn {H : AH TV} {ob : Option Nat} {e : List Value} {f : Fn} (h : LFn H ob e f) : FnAt H e f := by
  obtain ⟨b1, b2, b3, rfl, h1, h2, h3, _⟩ := h
  exact ⟨_, _, _, rfl, lent_row h1, lent_row h2, lentC_row h3⟩
theorem LFn.keep {H H' : AH TV} {ob ob' : Option Nat} {e : List Value} {f : Fn} (h : LFn H ob e f) (k : ∀ j, j < Vec.size H → some j ≠ ob → Vec.get H' j = Vec.get H j) (ho : ∀ j, j < Vec.size H → some j ≠ ob → some j ≠ ob') : LFn H' ob' e f := by
  obtain ⟨b1, b2, b3, rfl, h1, h2, h3, n1, n2, n3⟩ := h
  have l1 := Vec.get_lt _ _ _ h1
  have l2 := Vec.get_lt _ _ _ h2
  have l3 := Vec.get_lt _ _ _ h3
  exact ⟨b1, b2, b3, rfl, (k b1 l1 n1).trans h1, (k b2 l2 n2).trans h2, (k b3 l3 n3).trans h3, ho _ l1 n1, ho _ l2 n2, ho _ l3 n3⟩
theorem lenU {v : Value} {H : AH TV} {ls : List Int} (h : RowOf H v (cellsU ls)) : ∃ a c, v = .slice a ls.length c := by
  have hlen : (cellsU ls).length = ls.length := by simp [cellsU]
  obtain ⟨a, c, e⟩ := h.len
  rw [hlen] at e
  exact ⟨a, c, e⟩
theorem one_fn {H : AH TV} {f : Fn} {vp vr vc : Value} (h1 : RowOf H vp (cellsU f.ps)) (h2 : RowOf H vr (cellsU f.rs)) (h3 : RowS H vc (cellsC f.code)) : (fnCells f vp vr vc).all oneCell = true := by
  obtain ⟨_, _, rfl⟩ := lenU h1
  obtain ⟨_, _, rfl⟩ := lenU h2
  obtain ⟨_, _, rfl⟩ := lenSC h3
  rfl
theorem FnAt.one {H : AH TV} {e : List Value} {f : Fn} (h : FnAt H e f) : e.all oneCell = true ∧ e.length = 6 := by
  obtain ⟨vp, vr, vc, rfl, h1, h2, h3⟩ := h
  exact ⟨one_fn h1 h2 h3, rfl⟩
theorem does_alloc {T L : List Value} {H : AH TV} {Q : Value → AH TV → Prop} {cs : List Value} {b : Nat} (hb : Vec.size H = b) (hq : ∀ H', Vec.size H' = b + 1 → Keeps H H' → Vec.get H' b = some (.arr cs true 0) → Q (.pointer (some ⟨b, 0, none⟩)) H') : ADoes E T L (.alloc cs) H Q := by
  subst hb
  exact does_op _ _ rfl (hq _ (size_anew _ _) ((Keeps.refl H).anew _) (get_anew_same _ _))
theorem does_box {T L : List Value} {H : AH TV} {Q : Value → AH TV → Prop} {x : AM.Src} {cs : List Value} {b : Nat} (hx : sev T L x = some (.agg cs.toArray)) (ho : cs.all oneCell = true) (hb : Vec.size H = b) (hq : ∀ H', Vec.size H' = b + 1 → Keeps H H' → Vec.get H' b = some (.arr cs true 0) → Q (.pointer (some ⟨b, 0, none⟩)) H') : ADoes E T L (.box x) H Q := by
  subst hb
  refine does_op (.pointer (some ⟨Vec.size H, 0, none⟩)) (anew H cs) ?_ (hq _ (size_anew _ _) ((Keeps.refl H).anew _) (get_anew_same _ _))
  simp only [aexec, x1, hx]
  show (if cs.toArray.toList.all oneCell = true then _ else _) = _
  rw [if_pos ho]; rfl
structure Md where
  gs : List Int
  arrays : List (Int × Int)
  chans : List Int
  fns : List Fn
def cellsA (l : List (Int × Int)) : List (List Value) := l.map fun p => [.int .i64 p.1, .int .u64 p.2]
theorem sizedA (l : List (Int × Int)) : Sized 2 (cellsA l) := fun e he => by
  obtain ⟨p, _, rfl⟩ := List.mem_map.1 he; rfl
theorem lenA (l : List (Int × Int)) : (cellsA l).length = l.length := by simp [cellsA]
theorem lenSA {v : Value} {H : AH TV} {l : List (Int × Int)} (h : RowS H v (cellsA l)) : ∃ a c, v = .slice a l.length c := by
  obtain ⟨a, c, e⟩ := h.len
  rw [lenA] at e
  exact ⟨a, c, e⟩
theorem atA {v : Value} {H : AH TV} {l : List (Int × Int)} (h : RowS H v (cellsA l)) {i : Nat} (hi : i < l.length) : ∃ b off ce blk w lo, v = .slice (some ⟨b, off, none⟩) l.length ce ∧ Vec.get H b = some (.arr blk w lo) ∧
    (blk.drop (off + i * 2)).take 2 = [.int .i64 (l[i]).1, .int .u64 (l[i]).2] ∧ off + i * 2 + 2 ≤ blk.length := by
  obtain ⟨b, off, ce, blk, w, lo, e, g, q, hb⟩ := h.at (sizedA l) (i := i) (by rw [lenA]; exact hi)
  rw [lenA] at e
  refine ⟨b, off, ce, blk, w, lo, e, g, ?_, hb⟩
  rw [q]; simp [cellsA]
def FnsAt (H : AH TV) (es : List (List Value)) (fns : List Fn) : Prop := es.length = fns.length ∧ ∀ i (h : i < es.length) (h' : i < fns.length), FnAt H es[i] fns[i]
theorem FnsAt.sized {H : AH TV} {es : List (List Value)} {fns : List Fn} (h : FnsAt H es fns) : Sized 6 es := fun e he => by
  obtain ⟨i, hi, rfl⟩ := List.getElem_of_mem he
  exact (h.2 i hi (h.1 ▸ hi)).one.2
theorem FnsAt.ext {H H' : AH TV} {es : List (List Value)} {fns : List Fn} (h : FnsAt H es fns) (k : Keeps H H') : FnsAt H' es fns := ⟨h.1, fun i h1 h2 => (h.2 i h1 h2).ext k⟩
def Fns (H : AH TV) (v : Value) (fns : List Fn) : Prop := ∃ es, RowS H v es ∧ FnsAt H es fns
theorem Fns.ext {H H' : AH TV} {v : Value} {fns : List Fn} (h : Fns H v fns) (k : Keeps H H') : Fns H' v fns := by
  obtain ⟨es, h1, h2⟩ := h
  exact ⟨es, h1.ext k, h2.ext k⟩
theorem Fns.len {H : AH TV} {v : Value} {fns : List Fn} (h : Fns H v fns) : ∃ a c, v = .slice a fns.length c := by
  obtain ⟨es, h1, h2⟩ := h
  obtain ⟨a, c, e⟩ := h1.len
  rw [h2.1] at e
  exact ⟨a, c, e⟩
theorem Fns.at {H : AH TV} {v : Value} {fns : List Fn} (h : Fns H v fns) {i : Nat} (hi : i < fns.length) : ∃ b off ce blk w lo e, v = .slice (some ⟨b, off, none⟩) fns.length ce ∧ Vec.get H b = some (.arr blk w lo) ∧ (blk.drop (off + i * 6)).take 6 = e ∧ off + i * 6 + 6 ≤ blk.length ∧ FnAt H e fns[i] := by
  obtain ⟨es, h1, h2⟩ := h
  have hi' : i < es.length := by rw [h2.1]; exact hi
  obtain ⟨b, off, ce, blk, w, lo, e, g, q, hb⟩ := h1.at h2.sized hi'
  rw [h2.1] at e
  exact ⟨b, off, ce, blk, w, lo, es[i], e, g, q, hb, h2.2 i hi' hi⟩
/-- A module. -/
def MdAt (H : AH TV) (v : Value) (m : Md) : Prop := ∃ vg va vc vf, v = .agg #[vg, va, vc, vf] ∧ RowOf H vg (cellsU m.gs) ∧ RowS H va (cellsA m.arrays) ∧ RowOf H vc (cellsU m.chans) ∧ Fns H vf m.fns
theorem MdAt.ext {H H' : AH TV} {v : Value} {m : Md} (h : MdAt H v m) (k : Keeps H H') : MdAt H' v m := by
  obtain ⟨vg, va, vc, vf, rfl, h1, h2, h3, h4⟩ := h
  exact ⟨vg, va, vc, vf, rfl, h1.ext k, h2.ext k, h3.ext k, h4.ext k⟩
structure MdFits (m : Md) : Prop where
  gs : (m.gs.length + 1) * 8 ≤ room
  arrays : (m.arrays.length + 1) * 16 ≤ room
  chans : (m.chans.length + 1) * 8 ≤ room
  fns : (m.fns.length + 1) * 96 ≤ room
  each : ∀ f ∈ m.fns, Fits f
def markA : List Value := [.int .i64 (-71), .int .u64 0]
def markF : List Value := [.int .u64 0, .slice none 0 0, .slice none 0 0, .int .i64 0, .int .i64 (-71), .slice none 0 0]
structure LMd (H : AH TV) (v : Value) (m : Md) (bg ba bc bf : Nat) (es : List (List Value)) : Prop where
  val : v = .agg #[lentV bg m.gs, lentV' ba m.arrays.length, lentV bc m.chans, lentV' bf m.fns.length]
  gs : Lent H bg m.gs
  arrays : Vec.get H ba = some (.arr (cellsA m.arrays ++ [markA]).flatten true 0)
  chans : Lent H bc m.chans
  fns : Vec.get H bf = some (.arr (es ++ [markF]).flatten true 0)
  len : es.length = m.fns.length
  each : ∀ i (h : i < es.length) (h' : i < m.fns.length), LFn H none es[i] m.fns[i]
theorem LFn.ext {H H' : AH TV} {e : List Value} {f : Fn} (h : LFn H none e f) (k : Keeps H H') : LFn H' none e f := h.keep (fun j hj _ => k.get j hj) (fun _ _ h => h)
theorem LMd.ext {H H' : AH TV} {v : Value} {m : Md} {bg ba bc bf : Nat} {es : List (List Value)} (h : LMd H v m bg ba bc bf es) (k : Keeps H H') : LMd H' v m bg ba bc bf es :=
  ⟨h.val, k.some h.gs, k.some h.arrays, k.some h.chans, k.some h.fns, h.len, fun i h1 h2 => (h.each i h1 h2).ext k⟩
theorem LMd.fnsAt {H : AH TV} {v : Value} {m : Md} {bg ba bc bf : Nat} {es : List (List Value)} (h : LMd H v m bg ba bc bf es) : FnsAt H es m.fns := ⟨h.len, fun i h1 h2 => (h.each i h1 h2).fn⟩
theorem LMd.md {H : AH TV} {v : Value} {m : Md} {bg ba bc bf : Nat} {es : List (List Value)} (h : LMd H v m bg ba bc bf es) : MdAt H v m := by
  refine ⟨_, _, _, _, h.val, lent_row h.gs, ?_, lent_row h.chans, es, ?_, h.fnsAt⟩
  · exact .inr ⟨ba, 0, _, _, _, _, by rw [lenA]; rfl, h.arrays, by simp, by simp [List.take_append_of_le_length]⟩
  · exact .inr ⟨bf, 0, _, _, _, _, by rw [h.len]; rfl, h.fns, by simp, by simp [List.take_append_of_le_length]⟩
theorem max_i64 (a b : Int) (ts : Array TypeId) (t : TypeId) : aflat Try.prog (.max ts t) [.int .i64 a, .int .i64 b] = some (.int .i64 (max a b)) := by
  simp only [aflat]
  rw [if_pos (by simp [flat, flat1])]
  show (match pureRun Try.prog (Builtin.max_ ts t #[.int .i64 a, .int .i64 b]) with | some v => if flat v = true then some v else none | none => none) = _
  simp only [Builtin.max_, List.foldlM_cons, List.foldlM_nil, pureRun_bind, Builtin.max2, pureRun_pure]
  show some (Value.int .i64 (if b > a then b else a)) = _
  rw [show (if b > a then b else a) = max a b by split <;> omega]
theorem min_i64 (a b : Int) (ts : Array TypeId) (t : TypeId) : aflat Try.prog (.min ts t) [.int .i64 a, .int .i64 b] = some (.int .i64 (min a b)) := by
  simp only [aflat]
  rw [if_pos (by simp [flat, flat1])]
  show (match pureRun Try.prog (Builtin.min_ ts t #[.int .i64 a, .int .i64 b]) with | some v => if flat v = true then some v else none | none => none) = _
  simp only [Builtin.min_, List.foldlM_cons, List.foldlM_nil, pureRun_bind, Builtin.min2, pureRun_pure]
  show some (Value.int .i64 (if b < a then b else a)) = _
  rw [show (if b < a then b else a) = min a b by split <;> omega]
theorem does_faddr {T L : List Value} {H : AH TV} {Q : Value → AH TV → Prop} {x : AM.Src} {b o off : Nat} (hx : sev T L x = some (.pointer (some ⟨b, o, none⟩))) (hq : Q (.pointer (some ⟨b, o + off, none⟩)) H) : ADoes E T L (.faddr off x) H Q :=
  does_op _ H (by simp [aexec, x1, hx, fFaddr, add_none, withH]) hq
def rangeOps (b : Nat) : List AOper := [⟨.bin .lss (.tmp 1) (.const (.int .i64 0)), none, 0⟩, ⟨.mov (.tmp 1), (some ((.loc 0), false)), 0⟩, ⟨.faddr 3 (.tmp b), (some ((.loc 1), false)), 0⟩, ⟨.load none (.loc 0), (some ((.loc 2), false)), 0⟩, ⟨.len (.loc 0), (some ((.loc 3), false)), 0⟩, ⟨.bin .geq (.loc 3) (.loc 0), (some ((.loc 4), false)), 0⟩, ⟨.pick (.loc 5) (.const (.bool true)) (.loc 0), none, 0⟩]
theorem range_ok {T : AT} {H : AH TV} {Q : List Value → AH TV → Prop} {b n len cf : Nat} {f : Int} {vg va vc : Value} {af : Option Addr} {w : Bool} {lo : Nat} (t1 : T[1]? = some (.int .i64 f)) (tb : T[b]? = some (.pointer (some ⟨n, 0, none⟩))) (g : Vec.get H n = some (.arr [vg, va, vc, .slice af len cf] w lo))
    (hq : ∀ L, Q (.bool (decide (¬ (0 ≤ f ∧ f < len))) :: L) H) : AOps E T (rangeOps b) [] H Q := by
  unfold rangeOps
  by_cases h0 : f < 0
  · refine ops_cons rfl (does_op (.bool true) H (by simp [aexec, x2, sev, t1, abin, abinK, abinI, someBool, withH, h0]) ?_)
    refine ops_not rfl (ops_not rfl (ops_not rfl (ops_not rfl (ops_not rfl ?_))))
    refine ops_cons rfl (does_val rfl (ops_nil ?_))
    have := hq
    rw [decide_eq_true (show ¬ (0 ≤ f ∧ f < len) by omega)] at this
    exact this _
  · refine ops_cons rfl (does_op (.bool false) H (by simp [aexec, x2, sev, t1, abin, abinK, abinI, someBool, withH, h0]) ?_)
    refine ops_cons rfl (does_val (v := .int .i64 f) (by simp [aexec, sev, t1, withH]) ?_)
    refine ops_cons rfl (does_faddr tb ?_)
    refine ops_cons rfl (does_load (v := .slice af len cf) rfl g rfl ?_)
    refine ops_cons rfl (does_val rfl ?_)
    refine ops_cons rfl (does_val rfl ?_)
    refine ops_cons rfl (does_val (v := .bool (decide (¬ (0 ≤ f ∧ f < len)))) (by
      show some (Value.bool (decide (f ≥ (len : Int))), H) = _
      congr 3
      rw [decide_eq_decide]
      omega) (ops_nil ?_))
    exact hq _
def fnOf (m : Md) (f : Int) : Fn := m.fns.getD f.toNat ⟨0, [], [], 0, 0, []⟩
def locSpec (m : Md) (f : Int) : Int := if 0 ≤ f ∧ f < m.fns.length then (fnOf m f).ps.length + min (max 0 (fnOf m f).locals) 32 else 0
theorem fnOf_at {m : Md} {j : Nat} (h : j < m.fns.length) : fnOf m (j : Int) = m.fns[j] := by
  simp [fnOf, List.getD, h]
/-- One of a module's functions, in a box of the module. -/
theorem fn_at {H : AH TV} {vf : Value} {m : Md} (h : Fns H vf m.fns) {j : Nat} (hj : j < m.fns.length) : ∃ b off ce blk w lo vp vr vc, vf = .slice (some ⟨b, off, none⟩) m.fns.length ce ∧ Vec.get H b = some (.arr blk w lo) ∧ (blk.drop (off + j * 6)).take 6 = fnCells (fnOf m j) vp vr vc ∧ off + j * 6 + 6 ≤ blk.length ∧
    RowOf H vp (cellsU (fnOf m j).ps) ∧ RowOf H vr (cellsU (fnOf m j).rs) ∧ RowS H vc (cellsC (fnOf m j).code) := by
  obtain ⟨b, off, ce, blk, w, lo, e, h1, h2, h3, h4, vp, vr, vc, rfl, h5, h6, h7⟩ := h.at hj
  rw [fnOf_at hj]
  exact ⟨b, off, ce, blk, w, lo, vp, vr, vc, h1, h2, h3, h4, h5, h6, h7⟩
set_option maxHeartbeats 1000000 in
theorem locals_ok {v : Value} {H : AH TV} {m : Md} {f : Int} (h : MdAt H v m) (hf : MdFits m) : ARuns E (.call 53 [v, .int .i64 f] H) fun r => r.v = .int .i64 (locSpec m f) ∧ Keeps H r.H := by
  have hro : room = 140737488355328 := rfl
  obtain ⟨vg, va, vc, vf, rfl, h1, h2, h3, h4⟩ := h
  obtain ⟨ag, cg, eg⟩ := lenU h1
  obtain ⟨aa, ca, ea⟩ := lenSA h2
  obtain ⟨ac, cc, ec⟩ := lenU h3
  obtain ⟨af, cf, ef⟩ := h4.len
  obtain ⟨n, hn⟩ : ∃ n, Vec.size H = n := ⟨_, rfl⟩
  refine runs_call rfl rfl ?_
  refine seq_region ?_
  refine ops_cons rfl (does_box (cs := [vg, va, vc, vf]) rfl (by subst eg ea ec ef; rfl) hn fun H1 z1 k1 g1 => ops_nil ⟨_, rfl, ?_⟩)
  refine seq_assoc (seq_region (range_ok rfl rfl (by rw [ef] at g1; exact g1) fun L => ⟨_, rfl, ?_⟩))
  by_cases hr : 0 ≤ f ∧ f < m.fns.length
  · refine seq_cond false (by show some (Value.bool (decide _)) = _; simp [hr]) (seq_skip ?_)
    obtain ⟨j, rfl⟩ := Int.eq_ofNat_of_zero_le hr.1
    have hj : j < m.fns.length := by omega
    obtain ⟨b, off, ce, blk, w, lo, vp, vr, vcd, e1, g2, q, hb, r1, r2, r3⟩ := fn_at (h4.ext k1) hj
    obtain ⟨ap, cp, ep⟩ := lenU r1
    have hfit := hf.each _ (List.getElem_mem hj)
    rw [← fnOf_at hj] at hfit
    have hp := hfit.1
    refine seq_draw ?_
    refine draws_cons rfl (does_val rfl ⟨rfl, Nat.le_refl _, ?_⟩)
    refine draws_cons rfl (does_load (v := vf) rfl g1 rfl ⟨rfl, Nat.le_refl _, ?_⟩)
    refine draws_cons rfl (does_iaddr (j := j) (by rw [e1]; rfl) rfl hj ⟨rfl, Nat.le_refl _, ?_⟩)
    refine draws_cons rfl (does_val rfl ⟨rfl, Nat.le_refl _, ?_⟩)
    refine draws_cons rfl (does_load (v := vp) rfl g2 (acells_at (j := 1) q rfl) ⟨rfl, Nat.le_refl _, ?_⟩)
    refine draws_cons rfl (does_val (v := .int .i64 ((fnOf m j).ps.length : Nat)) (by rw [ep]; rfl) ⟨rfl, Nat.le_refl _, ?_⟩)
    refine draws_cons rfl (does_val rfl ⟨rfl, Nat.le_refl _, ?_⟩)
    refine draws_cons rfl (does_load (v := vf) rfl g1 rfl ⟨rfl, Nat.le_refl _, ?_⟩)
    refine draws_cons rfl (does_iaddr (j := j) (by rw [e1]; rfl) rfl hj ⟨rfl, Nat.le_refl _, ?_⟩)
    refine draws_cons rfl (does_val rfl ⟨rfl, Nat.le_refl _, ?_⟩)
    refine draws_cons rfl (does_load (v := .int .i64 (fnOf m j).locals) rfl g2 (acells_at (j := 3) q rfl) ⟨rfl, Nat.le_refl _, ?_⟩)
    refine draws_cons rfl (does_flat rfl (max_i64 _ _ _ _) ⟨rfl, Nat.le_refl _, ?_⟩)
    refine draws_cons rfl (does_flat rfl (min_i64 _ _ _ _) ⟨rfl, Nat.le_refl _, ?_⟩)
    refine draws_cons rfl (does_val (v := .int .i64 (locSpec m j)) (by
      show some (Value.int .i64 (aw .i64 (((fnOf m j).ps.length : Nat) + min (max 0 (fnOf m j).locals) 32)), _) = _
      rw [aw64 (by omega) (by omega), locSpec, if_pos hr]) ⟨rfl, Nat.le_refl _, draws_nil ⟨_, rfl, ?_⟩⟩)
    exact runs_ret ⟨.inr rfl, _, _, rfl, rfl, rfl, k1⟩
  · refine seq_cond true (by show some (Value.bool (decide _)) = _; simp [hr]) ?_
    refine seq_assoc (seq_region (ops_nil ⟨_, rfl, ?_⟩))
    refine seq_ret ⟨.inr rfl, _, _, rfl, rfl, ?_, k1⟩
    show Value.int .i64 0 = _
    rw [locSpec, if_neg hr]
end Go.Proofs.Ytollibkfagjnaaa.Shape
