/- The shape laws: contracts of the functions that they reach. -/
import Derived.Test.YtollibkfagjnaaaShapeCode
import Derived.Test.YtollibkfagjnaaaAMb
set_option linter.unusedVariables false
set_option linter.unusedSimpArgs false
set_option maxRecDepth 10000
namespace Go.Proofs.Ytollibkfagjnaaa.Shape
open Go.Proofs.Ytollibkfagjnaaa.AM
theorem pureRun_bind {α β : Type} (P : Program) (m : Sem α) (f : α → Sem β) : pureRun P (m >>= f) = (pureRun P m).bind fun a => pureRun P (f a) := by
  induction m with
  | pure a => rfl
  | program k ih => exact ih P
  | mark s k ih => exact ih
  | _ => rfl
theorem pureRun_program {α : Type} (P : Program) (f : Program → Sem α) : pureRun P (program >>= f) = pureRun P (f P) := rfl
theorem pureRun_pure {α : Type} (P : Program) (a : α) : pureRun P (pure a : Sem α) = some a := rfl
theorem pureRun_under (P : Program) (t : TypeId) (d : TypeDesc) (h : P.underlying t = some d) : pureRun P (underlying t) = some d := by
  unfold underlying
  rw [pureRun_program, h]; rfl
theorem pureRun_prog (P : Program) : pureRun P program = some P := rfl
theorem part_int (t : TypeId) (k : IntKind) (ht : Try.prog.underlying t = some (.int k)) (cs : Array Value) (i : Nat) (v : Value) (hv : cs[i]? = some v) : pureRun Try.prog (part t cs i) = some v := by
  have u := pureRun_under _ _ _ ht
  unfold part isAgg
  simp only [pureRun_bind, u, Option.bind_some, pureRun_pure, hv, Bool.false_eq_true, if_false]
def cellsU (l : List Int) : List Value := l.map (.int .u64)
theorem lent_ok {va : Value} {H : AH TV} {la : List Int} (ha : RowOf H va (cellsU la)) (hl : (la.length + 1) * 8 ≤ room) :
    ARuns E (.call 36 [va] H) fun r => ∃ b, Vec.size H ≤ b ∧ r.v = .slice (some ⟨b, 0, none⟩) la.length (2 * (la.length + 1)) ∧ Vec.get r.H b = some (.arr (cellsU la ++ [.int .u64 7171]) true 0) ∧ Keeps H r.H := by
  have hlen : (cellsU la).length = la.length := by simp [cellsU]
  have hone : (cellsU la).all oneCell = true := by simp [cellsU, oneCell]
  have hro : room = 140737488355328 := rfl
  refine runs_call rfl rfl ?_
  refine seq_region (ops_nil ⟨_, rfl, ?_⟩)
  refine seq_region (ops_nil ⟨_, rfl, ?_⟩)
  refine seq_region ?_
  -- the first append
  have key : ∀ (k : Value → AH TV → Prop), (∀ v' H', Acc H' (Vec.size H) v' (cellsU la) → Keeps H H' → k v' H') → ADoes E [va, .slice none 0 0, .slice none 0 0] [] (.append false 1 8 (.tmp 2) (.tmp 0)) H k := by
    intro k hk
    by_cases h0 : la.length = 0
    · have hnil : la = [] := List.eq_nil_of_length_eq_zero h0
      subst hnil
      refine does_append_none rfl rfl ha.alen ha.src (hk _ _ (.inl ⟨rfl, rfl⟩) (.refl _))
    · refine does_append_acc (base := Vec.size H) (cs := []) rfl (.inl ⟨rfl, rfl⟩) rfl ha.alen (by omega) ha.src rfl hone (by simp [hlen]; omega) (Nat.le_refl _) fun v' H' h1 h2 h3 => hk _ _ h1 ⟨h3, h2⟩
  refine ops_cons rfl (key _ fun v1 H1 h1 k1 => ops_nil ⟨_, rfl, ?_⟩)
  refine seq_region ?_
  refine ops_cons rfl (does_op _ _ rfl ?_)
  refine ops_cons rfl (does_append_acc (base := Vec.size H) (cs := cellsU la) (k := 1) (new := [.int .u64 7171]) rfl (h1.keep fun j h1 h2 => get_anew_lt h2) rfl rfl (by omega) ?_ rfl rfl (by rw [hlen]; omega) (Nat.le_trans k1.size (by rw [size_anew]; omega)) ?_)
  · simp only [asrc, arow, get_anew_same]; rfl
  intro v2 H2 h2 g2 s2
  refine ops_nil ⟨_, rfl, ?_⟩
  have hk2 : Keeps H H2 := ⟨Nat.le_trans k1.size (Nat.le_trans (by rw [size_anew]; omega) s2), fun j hj => by
    rw [g2 j hj, get_anew_lt (by have := k1.size; omega)]; exact k1.get j hj⟩
  rcases h2 with ⟨_, h⟩ | ⟨b, hb, rfl, _, hg⟩
  · simp [cellsU] at h
  obtain ⟨aa, ca, ea⟩ := ha.len
  rw [hlen] at ea
  have hlen2 : (cellsU la ++ [Value.int .u64 7171]).length = la.length + 1 := by simp [cellsU]
  rw [hlen2] at *
  refine seq_region ?_
  refine ops_cons rfl (does_val (v := .int .i64 (la.length : Nat)) (by subst ea; rfl) ?_)
  refine ops_cons rfl (does_cut rfl rfl (by omega) (by omega) (by omega) (ops_nil ⟨_, rfl, ?_⟩))
  refine runs_ret ⟨.inr rfl, _, _, rfl, rfl, b, hb, rfl, hg, hk2⟩
theorem ares_cell {T : AT} {H : AH TV} {t : Nat} {n : Option Nat} {b off : Nat} {cs : List Value} {w : Bool} {lo : Nat} {v : Value} {rs : List ARes} {vs : List Value} (ht : T[t]? = some (.pointer (some ⟨b, off, none⟩))) (hg : Vec.get H b = some (.arr cs w lo)) (hc : acells cs n off = some v) (hr : ares T H rs = some vs) : ares T H (.cell t n :: rs) = some (v :: vs) := by
  simp only [ares, x1, ht, aload, arow, hg, hc, hr]
theorem ares_tmp {T : AT} {H : AH TV} {t : Nat} {v : Value} {rs : List ARes} {vs : List Value} (ht : T[t]? = some v) (hr : ares T H rs = some vs) : ares T H (.tmp t :: rs) = some (v :: vs) := by
  simp only [ares, ht, hr]
/-- A row that was lent. -/
def Lent (H : AH TV) (b : Nat) (l : List Int) : Prop := Vec.get H b = some (.arr (cellsU l ++ [.int .u64 7171]) true 0)
def lentV' (b n : Nat) : Value := .slice (some ⟨b, 0, none⟩) n (2 * (n + 1))
def lentV (b : Nat) (l : List Int) : Value := .slice (some ⟨b, 0, none⟩) l.length (2 * (l.length + 1))
theorem does_flat {T L : List Value} {H : AH TV} {Q : Value → AH TV → Prop} {o : AM.FOp} {l : List AM.Src} {vs : List Value} {v : Value} (he : evs (sev T L) l = some vs) (hf : aflat Try.prog o vs = some v) (hq : Q v H) : ADoes E T L (.flat o l) H Q :=
  does_op v H (by
    show withH H (AM.xs (aflat Try.prog o) (sev T L) l) = _
    simp only [AM.xs, he, hf, withH]) hq
def cellsC (l : List (Int × Int)) : List (List Value) := l.map fun p => [.int .i64 p.1, .int .i64 p.2]
theorem sizedC (l : List (Int × Int)) : Sized 2 (cellsC l) := fun e he => by
  obtain ⟨p, _, rfl⟩ := List.mem_map.1 he; rfl
theorem lenC (l : List (Int × Int)) : (cellsC l).length = l.length := by simp [cellsC]
theorem oneC (l : List (Int × Int)) : (cellsC l).flatten.all oneCell = true := by
  simp only [cellsC, List.all_eq_true, List.mem_flatten]
  rintro v ⟨e, he, hv⟩
  obtain ⟨p, _, rfl⟩ := List.mem_map.1 he
  simp at hv
  rcases hv with rfl | rfl <;> rfl
theorem atC {v : Value} {H : AH TV} {l : List (Int × Int)} (h : RowS H v (cellsC l)) {i : Nat} (hi : i < l.length) : ∃ b off ce blk w lo, v = .slice (some ⟨b, off, none⟩) l.length ce ∧ Vec.get H b = some (.arr blk w lo) ∧
    (blk.drop (off + i * 2)).take 2 = [.int .i64 (l[i]).1, .int .i64 (l[i]).2] ∧ off + i * 2 + 2 ≤ blk.length := by
  obtain ⟨b, off, ce, blk, w, lo, e, g, q, hb⟩ := h.at (sizedC l) (i := i) (by rw [lenC]; exact hi)
  rw [lenC] at e
  refine ⟨b, off, ce, blk, w, lo, e, g, ?_, hb⟩
  rw [q]; simp [cellsC]
theorem lenSC {v : Value} {H : AH TV} {l : List (Int × Int)} (h : RowS H v (cellsC l)) : ∃ a c, v = .slice a l.length c := by
  obtain ⟨a, c, e⟩ := h.len
  rw [lenC] at e
  exact ⟨a, c, e⟩
/-- Code that was lent. -/
def markC : List Value := [.int .i64 (-71), .int .i64 0]
def LentC (H : AH TV) (b : Nat) (l : List (Int × Int)) : Prop := Vec.get H b = some (.arr (cellsC l ++ [markC]).flatten true 0)
theorem sizedM : Sized 2 [markC] := fun e he => by simp at he; subst he; rfl
theorem lentCode_ok {va : Value} {H : AH TV} {l : List (Int × Int)} (ha : RowS H va (cellsC l)) (hl : (l.length + 1) * 16 ≤ room) :
    ARuns E (.call 74 [va] H) fun r => ∃ b, Vec.size H ≤ b ∧ r.v = lentV' b l.length ∧ LentC r.H b l ∧ Keeps H r.H := by
  have hro : room = 140737488355328 := rfl
  rw [hro] at hl
  refine runs_call rfl rfl ?_
  refine seq_region (ops_nil ⟨_, rfl, ?_⟩)
  refine seq_region (ops_nil ⟨_, rfl, ?_⟩)
  refine seq_region ?_
  refine ops_cons rfl (does_append_allS rfl rfl ha (sizedC l) (oneC l) (by rw [lenC, hro]; omega) ?_)
  intro v1 H1 h1 k1
  refine ops_nil ⟨_, rfl, ?_⟩
  refine seq_region ?_
  refine ops_cons rfl (does_val rfl ?_)
  refine ops_cons rfl (does_op (.slice (some ⟨Vec.size H1, 0, none⟩) 1 3) (anew H1 markC) rfl ?_)
  refine ops_cons rfl (does_append_accS (sz := 2) (base := Vec.size H) (es := cellsC l) (new := [markC]) rfl (h1.keep fun j h1 h2 => get_anew_lt h2) rfl rfl (by simp) sizedM ?_ rfl (by rw [lenC, hro]; simp; omega) (Nat.le_trans k1.size (by rw [size_anew]; omega)) ?_)
  · simp only [asrc, arow, get_anew_same]; rfl
  intro v2 H2 h2 g2 s2
  refine ops_nil ⟨_, rfl, ?_⟩
  have hk2 : Keeps H H2 := ⟨Nat.le_trans k1.size (Nat.le_trans (by rw [size_anew]; omega) s2), fun j hj => by
    rw [g2 j hj, get_anew_lt (by have := k1.size; omega)]; exact k1.get j hj⟩
  rcases h2.2 with ⟨_, h⟩ | ⟨b, hb, rfl, _, hg⟩
  · simp at h
  obtain ⟨aa, ca, ea⟩ := lenSC ha
  have hlen2 : (cellsC l ++ [markC]).length = l.length + 1 := by simp [lenC]
  rw [hlen2]
  refine seq_region ?_
  refine ops_cons rfl (does_val (v := .int .i64 (l.length : Nat)) (by subst ea; rfl) ?_)
  refine ops_cons rfl (does_cut rfl rfl (by omega) (by omega) (by omega) (ops_nil ⟨_, rfl, ?_⟩))
  exact runs_ret ⟨.inr rfl, _, _, rfl, rfl, b, hb, rfl, hg, hk2⟩
theorem lentC_row {H : AH TV} {b : Nat} {l : List (Int × Int)} (h : LentC H b l) : RowS H (lentV' b l.length) (cellsC l) :=
  .inr ⟨b, 0, _, _, _, _, by rw [lenC]; rfl, h, by simp, by simp [List.take_append_of_le_length]⟩
structure Fn where
  lvl : Int
  ps : List Int
  rs : List Int
  locals : Int
  stack : Int
  code : List (Int × Int)
def fnCells (f : Fn) (vp vr vc : Value) : List Value := [.int .u64 f.lvl, vp, vr, .int .i64 f.locals, .int .i64 f.stack, vc]
/-- A function as it lies in a row. -/
def FnAt (H : AH TV) (e : List Value) (f : Fn) : Prop := ∃ vp vr vc, e = fnCells f vp vr vc ∧ RowOf H vp (cellsU f.ps) ∧ RowOf H vr (cellsU f.rs) ∧ RowS H vc (cellsC f.code)
theorem FnAt.ext {H H' : AH TV} {e : List Value} {f : Fn} (h : FnAt H e f) (k : Keeps H H') : FnAt H' e f := by
  obtain ⟨vp, vr, vc, rfl, h1, h2, h3⟩ := h
  exact ⟨vp, vr, vc, rfl, h1.ext k, h2.ext k, h3.ext k⟩
def Fits (f : Fn) : Prop := (f.ps.length + 1) * 8 ≤ room ∧ (f.rs.length + 1) * 8 ≤ room ∧ (f.code.length + 1) * 16 ≤ room
/-- A function that was lent; its rows are none of 'ob'. -/
def LFn (H : AH TV) (ob : Option Nat) (e : List Value) (f : Fn) : Prop := ∃ b1 b2 b3, e = fnCells f (lentV b1 f.ps) (lentV b2 f.rs) (lentV' b3 f.code.length) ∧ Lent H b1 f.ps ∧ Lent H b2 f.rs ∧ LentC H b3 f.code ∧ some b1 ≠ ob ∧ some b2 ≠ ob ∧ some b3 ≠ ob
theorem lent_row {H : AH TV} {b : Nat} {l : List Int} (h : Lent H b l) : RowOf H (lentV b l) (cellsU l) := by
  have hlen : (cellsU l).length = l.length := by simp [cellsU]
  exact .inr ⟨b, 0, _, _, _, _, by rw [hlen]; rfl, h, by simp, by simp [hlen]⟩
theorem LFn.fn {H : AH TV} {ob : Option Nat} {e : List Value} {f : Fn} (h : LFn H ob e f) : FnAt H e f := by
  obtain ⟨b1, b2, b3, rfl, h1, h2, h3, _⟩ := h
  exact ⟨_, _, _, rfl, lent_row h1, lent_row h2, lentC_row h3⟩
theorem LFn.keep {H H' : AH TV} {ob ob' : Option Nat} {e : List Value} {f : Fn} (h : LFn H ob e f) (k : ∀ j, j < Vec.size H → some j ≠ ob → Vec.get H' j = Vec.get H j) (ho : ∀ j, j < Vec.size H → some j ≠ ob → some j ≠ ob') : LFn H' ob' e f := by
  obtain ⟨b1, b2, b3, rfl, h1, h2, h3, n1, n2, n3⟩ := h
  have l1 := Vec.get_lt _ _ _ h1
  have l2 := Vec.get_lt _ _ _ h2
  have l3 := Vec.get_lt _ _ _ h3
  exact ⟨b1, b2, b3, rfl, (k b1 l1 n1).trans h1, (k b2 l2 n2).trans h2, (k b3 l3 n3).trans h3, ho _ l1 n1, ho _ l2 n2, ho _ l3 n3⟩
theorem lenU {v : Value} {H : AH TV} {ls : List Int} (h : RowOf H v (cellsU ls)) : ∃ a c, v = .slice a ls.length c := by
  have hlen : (cellsU ls).length = ls.length := by simp [cellsU]
  obtain ⟨a, c, e⟩ := h.len
  rw [hlen] at e
  exact ⟨a, c, e⟩
theorem one_fn {H : AH TV} {f : Fn} {vp vr vc : Value} (h1 : RowOf H vp (cellsU f.ps)) (h2 : RowOf H vr (cellsU f.rs)) (h3 : RowS H vc (cellsC f.code)) : (fnCells f vp vr vc).all oneCell = true := by
  obtain ⟨_, _, rfl⟩ := lenU h1
  obtain ⟨_, _, rfl⟩ := lenU h2
  obtain ⟨_, _, rfl⟩ := lenSC h3
  rfl
theorem FnAt.one {H : AH TV} {e : List Value} {f : Fn} (h : FnAt H e f) : e.all oneCell = true ∧ e.length = 6 := by
  obtain ⟨vp, vr, vc, rfl, h1, h2, h3⟩ := h
  exact ⟨one_fn h1 h2 h3, rfl⟩
theorem does_alloc {T L : List Value} {H : AH TV} {Q : Value → AH TV → Prop} {cs : List Value} {b : Nat} (hb : Vec.size H = b) (hq : ∀ H', Vec.size H' = b + 1 → Keeps H H' → Vec.get H' b = some (.arr cs true 0) → Q (.pointer (some ⟨b, 0, none⟩)) H') : ADoes E T L (.alloc cs) H Q := by
  subst hb
  exact does_op _ _ rfl (hq _ (size_anew _ _) ((Keeps.refl H).anew _) (get_anew_same _ _))
theorem does_box {T L : List Value} {H : AH TV} {Q : Value → AH TV → Prop} {x : AM.Src} {cs : List Value} {b : Nat} (hx : sev T L x = some (.agg cs.toArray)) (ho : cs.all oneCell = true) (hb : Vec.size H = b) (hq : ∀ H', Vec.size H' = b + 1 → Keeps H H' → Vec.get H' b = some (.arr cs true 0) → Q (.pointer (some ⟨b, 0, none⟩)) H') : ADoes E T L (.box x) H Q := by
  subst hb
  refine does_op (.pointer (some ⟨Vec.size H, 0, none⟩)) (anew H cs) ?_ (hq _ (size_anew _ _) ((Keeps.refl H).anew _) (get_anew_same _ _))
  simp only [aexec, x1, hx]
  show (if cs.toArray.toList.all oneCell = true then _ else _) = _
  rw [if_pos ho]; rfl
set_option maxHeartbeats 1000000 in
theorem lentFunction_ok {e : List Value} {H : AH TV} {f : Fn} (h : FnAt H e f) (hf : Fits f) :
    ARuns E (.call 35 [.agg e.toArray] H) fun r => ∃ e', r.v = .agg e'.toArray ∧ LFn r.H none e' f ∧ Keeps H r.H ∧ ∃ b1 b2 b3, e' = fnCells f (lentV b1 f.ps) (lentV b2 f.rs) (lentV' b3 f.code.length) ∧ Vec.size H ≤ b1 ∧ Vec.size H ≤ b2 ∧ Vec.size H ≤ b3 := by
  obtain ⟨vp, vr, vc, rfl, h1, h2, h3⟩ := h
  obtain ⟨f1, f2, f3⟩ := hf
  obtain ⟨n, hn⟩ : ∃ n, Vec.size H = n := ⟨_, rfl⟩
  refine runs_call rfl rfl ?_
  refine seq_region ?_
  refine ops_cons rfl (does_box rfl (one_fn h1 h2 h3) hn fun H1 z1 k1 g1 => ?_)
  refine ops_cons rfl (does_alloc z1 fun H2 z2 k2 g2 => ops_nil ⟨_, rfl, ?_⟩)
  have k02 := k1.trans k2
  have x2 := k2.some g1
  refine seq_region ?_
  refine ops_cons rfl (does_val rfl ?_)
  refine ops_cons rfl (does_load (v := vp) rfl x2 rfl ?_)
  refine ops_cons rfl (does_call rfl rfl ((lent_ok (h1.ext k02) f1).mono ?_))
  rintro ⟨e3, T3, H3, ds3, v3⟩ ⟨b1, p1, rfl, q1, k3⟩
  simp only at q1 k3
  have s3 := k3.size
  refine ops_cons rfl (does_val rfl ?_)
  refine ops_cons rfl (does_store rfl rfl rfl rfl rfl (k3.some x2) (Nat.zero_le _) (show 2 ≤ 6 by omega) (ops_nil ⟨_, rfl, ?_⟩))
  obtain ⟨H4, hH4⟩ : ∃ H4, Vec.set H3 n (.arr [.int .u64 f.lvl, lentV b1 f.ps, vr, .int .i64 f.locals, .int .i64 f.stack, vc] true 0) = H4 := ⟨_, rfl⟩
  have x4 : Vec.get H4 n = some (.arr [.int .u64 f.lvl, lentV b1 f.ps, vr, .int .i64 f.locals, .int .i64 f.stack, vc] true 0) := by rw [← hH4]; exact get_set_same (by omega)
  have o4 : ∀ j, j ≠ n → Vec.get H4 j = Vec.get H3 j := fun j hj => by rw [← hH4]; exact get_set_ne (Ne.symm hj)
  have z4 : Vec.size H4 = Vec.size H3 := by rw [← hH4, Vec.size_set]
  have k04 : Keeps H H4 := by rw [← hH4]; exact (k02.trans k3).set _ (by omega)
  have y4 : Vec.get H4 (n + 1) = some (.arr [.int .u64 0, .slice none 0 0, .slice none 0 0, .int .i64 0, .int .i64 0, .slice none 0 0] true 0) := by rw [o4 _ (by omega)]; exact k3.some g2
  have l4 : Lent H4 b1 f.ps := by unfold Lent; rw [o4 _ (by omega)]; exact q1
  show ARuns E (.code false _ _ (Vec.set H3 n (.arr [.int .u64 f.lvl, lentV b1 f.ps, vr, .int .i64 f.locals, .int .i64 f.stack, vc] true 0)) []) _
  rw [hH4]
  clear hH4
  refine seq_region ?_
  refine ops_cons rfl (does_val rfl ?_)
  refine ops_cons rfl (does_load (v := vr) rfl x4 rfl ?_)
  refine ops_cons rfl (does_call rfl rfl ((lent_ok (h2.ext k04) f2).mono ?_))
  rintro ⟨e5, T5, H5, ds5, v5⟩ ⟨b2, p2, rfl, q2, k5⟩
  simp only at q2 k5
  have s5 := k5.size
  refine ops_cons rfl (does_val rfl ?_)
  refine ops_cons rfl (does_store rfl rfl rfl rfl rfl (k5.some x4) (Nat.zero_le _) (show 3 ≤ 6 by omega) (ops_nil ⟨_, rfl, ?_⟩))
  obtain ⟨H6, hH6⟩ : ∃ H6, Vec.set H5 n (.arr [.int .u64 f.lvl, lentV b1 f.ps, lentV b2 f.rs, .int .i64 f.locals, .int .i64 f.stack, vc] true 0) = H6 := ⟨_, rfl⟩
  have x6 : Vec.get H6 n = some (.arr [.int .u64 f.lvl, lentV b1 f.ps, lentV b2 f.rs, .int .i64 f.locals, .int .i64 f.stack, vc] true 0) := by rw [← hH6]; exact get_set_same (by omega)
  have o6 : ∀ j, j ≠ n → Vec.get H6 j = Vec.get H5 j := fun j hj => by rw [← hH6]; exact get_set_ne (Ne.symm hj)
  have z6 : Vec.size H6 = Vec.size H5 := by rw [← hH6, Vec.size_set]
  have k06 : Keeps H H6 := by rw [← hH6]; exact (k04.trans k5).set _ (by omega)
  have y6 : Vec.get H6 (n + 1) = some (.arr [.int .u64 0, .slice none 0 0, .slice none 0 0, .int .i64 0, .int .i64 0, .slice none 0 0] true 0) := by rw [o6 _ (by omega)]; exact k5.some y4
  have l6 : Lent H6 b1 f.ps := by unfold Lent; rw [o6 _ (by omega)]; exact k5.some l4
  have m6 : Lent H6 b2 f.rs := by unfold Lent; rw [o6 _ (by omega)]; exact q2
  show ARuns E (.code false _ _ (Vec.set H5 n (.arr [.int .u64 f.lvl, lentV b1 f.ps, lentV b2 f.rs, .int .i64 f.locals, .int .i64 f.stack, vc] true 0)) []) _
  rw [hH6]
  clear hH6
  refine seq_region ?_
  refine ops_cons rfl (does_val rfl ?_)
  refine ops_cons rfl (does_load (v := vc) rfl x6 rfl ?_)
  refine ops_cons rfl (does_call rfl rfl ((lentCode_ok (h3.ext k06) f3).mono ?_))
  rintro ⟨e7, T7, H7, ds7, v7⟩ ⟨b3, p3, rfl, q3, k7⟩
  simp only at q3 k7
  have s7 := k7.size
  refine ops_cons rfl (does_val rfl ?_)
  refine ops_cons rfl (does_store rfl rfl rfl rfl rfl (k7.some x6) (Nat.zero_le _) (show 6 ≤ 6 by omega) (ops_nil ⟨_, rfl, ?_⟩))
  obtain ⟨H8, hH8⟩ : ∃ H8, Vec.set H7 n (.arr (fnCells f (lentV b1 f.ps) (lentV b2 f.rs) (lentV' b3 f.code.length)) true 0) = H8 := ⟨_, rfl⟩
  have x8 : Vec.get H8 n = some (.arr (fnCells f (lentV b1 f.ps) (lentV b2 f.rs) (lentV' b3 f.code.length)) true 0) := by rw [← hH8]; exact get_set_same (by omega)
  have o8 : ∀ j, j ≠ n → Vec.get H8 j = Vec.get H7 j := fun j hj => by rw [← hH8]; exact get_set_ne (Ne.symm hj)
  have z8 : Vec.size H8 = Vec.size H7 := by rw [← hH8, Vec.size_set]
  have k08 : Keeps H H8 := by rw [← hH8]; exact (k06.trans k7).set _ (by omega)
  have y8 : Vec.get H8 (n + 1) = some (.arr [.int .u64 0, .slice none 0 0, .slice none 0 0, .int .i64 0, .int .i64 0, .slice none 0 0] true 0) := by rw [o8 _ (by omega)]; exact k7.some y6
  show ARuns E (.code false _ _ (Vec.set H7 n (.arr (fnCells f (lentV b1 f.ps) (lentV b2 f.rs) (lentV' b3 f.code.length)) true 0)) []) _
  rw [hH8]
  clear hH8
  refine seq_region ?_
  refine ops_cons rfl (does_load (v := .agg (fnCells f (lentV b1 f.ps) (lentV b2 f.rs) (lentV' b3 f.code.length)).toArray) rfl x8 rfl ?_)
  refine ops_cons rfl (does_store rfl rfl rfl rfl rfl y8 (Nat.zero_le _) (show 6 ≤ 6 by omega) (ops_nil ⟨_, rfl, ?_⟩))
  have hne : ∀ j, j ≠ n + 1 → Vec.get (Vec.set H8 (n + 1) (.arr (fnCells f (lentV b1 f.ps) (lentV b2 f.rs) (lentV' b3 f.code.length)) true 0)) j = Vec.get H8 j := fun j hj => get_set_ne (Ne.symm hj)
  refine runs_ret ⟨.inr rfl, _, _, rfl, ares_cell rfl (get_set_same (by omega)) rfl rfl, fnCells f (lentV b1 f.ps) (lentV b2 f.rs) (lentV' b3 f.code.length), rfl, ⟨b1, b2, b3, rfl, ?_, ?_, ?_, by simp, by simp, by simp⟩, k08.set _ (by omega), b1, b2, b3, rfl, by omega, by omega, by omega⟩
  · refine (hne b1 (by omega)).trans ?_
    rw [o8 _ (by omega)]; exact k7.some l6
  · refine (hne b2 (by omega)).trans ?_
    rw [o8 _ (by omega)]; exact k7.some m6
  · refine (hne b3 (by omega)).trans ?_
    rw [o8 _ (by omega)]; exact q3
structure Md where
  gs : List Int
  arrays : List (Int × Int)
  chans : List Int
  fns : List Fn
def cellsA (l : List (Int × Int)) : List (List Value) := l.map fun p => [.int .i64 p.1, .int .u64 p.2]
theorem sizedA (l : List (Int × Int)) : Sized 2 (cellsA l) := fun e he => by
  obtain ⟨p, _, rfl⟩ := List.mem_map.1 he; rfl
theorem lenA (l : List (Int × Int)) : (cellsA l).length = l.length := by simp [cellsA]
theorem oneA (l : List (Int × Int)) : (cellsA l).flatten.all oneCell = true := by
  simp only [cellsA, List.all_eq_true, List.mem_flatten]
  rintro v ⟨e, he, hv⟩
  obtain ⟨p, _, rfl⟩ := List.mem_map.1 he
  simp at hv
  rcases hv with rfl | rfl <;> rfl
theorem lenSA {v : Value} {H : AH TV} {l : List (Int × Int)} (h : RowS H v (cellsA l)) : ∃ a c, v = .slice a l.length c := by
  obtain ⟨a, c, e⟩ := h.len
  rw [lenA] at e
  exact ⟨a, c, e⟩
theorem atA {v : Value} {H : AH TV} {l : List (Int × Int)} (h : RowS H v (cellsA l)) {i : Nat} (hi : i < l.length) : ∃ b off ce blk w lo, v = .slice (some ⟨b, off, none⟩) l.length ce ∧ Vec.get H b = some (.arr blk w lo) ∧
    (blk.drop (off + i * 2)).take 2 = [.int .i64 (l[i]).1, .int .u64 (l[i]).2] ∧ off + i * 2 + 2 ≤ blk.length := by
  obtain ⟨b, off, ce, blk, w, lo, e, g, q, hb⟩ := h.at (sizedA l) (i := i) (by rw [lenA]; exact hi)
  rw [lenA] at e
  refine ⟨b, off, ce, blk, w, lo, e, g, ?_, hb⟩
  rw [q]; simp [cellsA]
def FnsAt (H : AH TV) (es : List (List Value)) (fns : List Fn) : Prop := es.length = fns.length ∧ ∀ i (h : i < es.length) (h' : i < fns.length), FnAt H es[i] fns[i]
theorem FnsAt.sized {H : AH TV} {es : List (List Value)} {fns : List Fn} (h : FnsAt H es fns) : Sized 6 es := fun e he => by
  obtain ⟨i, hi, rfl⟩ := List.getElem_of_mem he
  exact (h.2 i hi (h.1 ▸ hi)).one.2
theorem FnsAt.ext {H H' : AH TV} {es : List (List Value)} {fns : List Fn} (h : FnsAt H es fns) (k : Keeps H H') : FnsAt H' es fns := ⟨h.1, fun i h1 h2 => (h.2 i h1 h2).ext k⟩
def Fns (H : AH TV) (v : Value) (fns : List Fn) : Prop := ∃ es, RowS H v es ∧ FnsAt H es fns
theorem Fns.ext {H H' : AH TV} {v : Value} {fns : List Fn} (h : Fns H v fns) (k : Keeps H H') : Fns H' v fns := by
  obtain ⟨es, h1, h2⟩ := h
  exact ⟨es, h1.ext k, h2.ext k⟩
theorem Fns.len {H : AH TV} {v : Value} {fns : List Fn} (h : Fns H v fns) : ∃ a c, v = .slice a fns.length c := by
  obtain ⟨es, h1, h2⟩ := h
  obtain ⟨a, c, e⟩ := h1.len
  rw [h2.1] at e
  exact ⟨a, c, e⟩
theorem Fns.at {H : AH TV} {v : Value} {fns : List Fn} (h : Fns H v fns) {i : Nat} (hi : i < fns.length) : ∃ b off ce blk w lo e, v = .slice (some ⟨b, off, none⟩) fns.length ce ∧ Vec.get H b = some (.arr blk w lo) ∧ (blk.drop (off + i * 6)).take 6 = e ∧ off + i * 6 + 6 ≤ blk.length ∧ FnAt H e fns[i] := by
  obtain ⟨es, h1, h2⟩ := h
  have hi' : i < es.length := by rw [h2.1]; exact hi
  obtain ⟨b, off, ce, blk, w, lo, e, g, q, hb⟩ := h1.at h2.sized hi'
  rw [h2.1] at e
  exact ⟨b, off, ce, blk, w, lo, es[i], e, g, q, hb, h2.2 i hi' hi⟩
/-- A module. -/
def MdAt (H : AH TV) (v : Value) (m : Md) : Prop := ∃ vg va vc vf, v = .agg #[vg, va, vc, vf] ∧ RowOf H vg (cellsU m.gs) ∧ RowS H va (cellsA m.arrays) ∧ RowOf H vc (cellsU m.chans) ∧ Fns H vf m.fns
theorem MdAt.ext {H H' : AH TV} {v : Value} {m : Md} (h : MdAt H v m) (k : Keeps H H') : MdAt H' v m := by
  obtain ⟨vg, va, vc, vf, rfl, h1, h2, h3, h4⟩ := h
  exact ⟨vg, va, vc, vf, rfl, h1.ext k, h2.ext k, h3.ext k, h4.ext k⟩
structure MdFits (m : Md) : Prop where
  gs : (m.gs.length + 1) * 8 ≤ room
  arrays : (m.arrays.length + 1) * 16 ≤ room
  chans : (m.chans.length + 1) * 8 ≤ room
  fns : (m.fns.length + 1) * 96 ≤ room
  each : ∀ f ∈ m.fns, Fits f
def markA : List Value := [.int .i64 (-71), .int .u64 0]
def markF : List Value := [.int .u64 0, .slice none 0 0, .slice none 0 0, .int .i64 0, .int .i64 (-71), .slice none 0 0]
structure LMd (H : AH TV) (v : Value) (m : Md) (bg ba bc bf : Nat) (es : List (List Value)) : Prop where
  val : v = .agg #[lentV bg m.gs, lentV' ba m.arrays.length, lentV bc m.chans, lentV' bf m.fns.length]
  gs : Lent H bg m.gs
  arrays : Vec.get H ba = some (.arr (cellsA m.arrays ++ [markA]).flatten true 0)
  chans : Lent H bc m.chans
  fns : Vec.get H bf = some (.arr (es ++ [markF]).flatten true 0)
  len : es.length = m.fns.length
  each : ∀ i (h : i < es.length) (h' : i < m.fns.length), LFn H none es[i] m.fns[i]
theorem LFn.ext {H H' : AH TV} {e : List Value} {f : Fn} (h : LFn H none e f) (k : Keeps H H') : LFn H' none e f := h.keep (fun j hj _ => k.get j hj) (fun _ _ h => h)
theorem LMd.ext {H H' : AH TV} {v : Value} {m : Md} {bg ba bc bf : Nat} {es : List (List Value)} (h : LMd H v m bg ba bc bf es) (k : Keeps H H') : LMd H' v m bg ba bc bf es :=
  ⟨h.val, k.some h.gs, k.some h.arrays, k.some h.chans, k.some h.fns, h.len, fun i h1 h2 => (h.each i h1 h2).ext k⟩
theorem LMd.fnsAt {H : AH TV} {v : Value} {m : Md} {bg ba bc bf : Nat} {es : List (List Value)} (h : LMd H v m bg ba bc bf es) : FnsAt H es m.fns := ⟨h.len, fun i h1 h2 => (h.each i h1 h2).fn⟩
theorem LMd.md {H : AH TV} {v : Value} {m : Md} {bg ba bc bf : Nat} {es : List (List Value)} (h : LMd H v m bg ba bc bf es) : MdAt H v m := by
  refine ⟨_, _, _, _, h.val, lent_row h.gs, ?_, lent_row h.chans, es, ?_, h.fnsAt⟩
  · exact .inr ⟨ba, 0, _, _, _, _, by rw [lenA]; rfl, h.arrays, by simp, by simp [List.take_append_of_le_length]⟩
  · exact .inr ⟨bf, 0, _, _, _, _, by rw [h.len]; rfl, h.fns, by simp, by simp [List.take_append_of_le_length]⟩
theorem lent_ne {H : AH TV} {b : Nat} {l : List Int} {a1 a2 a3 : Value} (h : Lent H b l) (h2 : Vec.get H b = some (.arr [a1, a2, a3, .slice none 0 0] true 0)) : False := by
  unfold Lent at h
  rw [h] at h2
  simp only [Option.some.injEq, Blk.arr.injEq, and_true] at h2
  have := congrArg List.getLast? h2
  simp at this
theorem lentC_ne {H : AH TV} {b : Nat} {l : List (Int × Int)} {a2 a3 a4 : Value} (h : LentC H b l) (h2 : Vec.get H b = some (.arr [.slice none 0 0, a2, a3, a4] true 0)) : False := by
  unfold LentC at h
  rw [h] at h2
  simp only [Option.some.injEq, Blk.arr.injEq, and_true] at h2
  cases l <;> simp [cellsC, markC] at h2
set_option maxHeartbeats 4000000 in
theorem lentModule_new {v : Value} {H : AH TV} {m : Md} (h : MdAt H v m) (hf : MdFits m) :
    ARuns E (.call 13 [v] H) fun r => ∃ bg ba bc bf es, LMd r.H r.v m bg ba bc bf es ∧ Keeps H r.H ∧ (Vec.size H ≤ ba ∧ ba < bf ∧ bf < bg ∧ bg < bc) ∧
      ∀ i (h : i < es.length) (h' : i < m.fns.length), ∃ b1 b2 b3, es[i] = fnCells m.fns[i] (lentV b1 m.fns[i].ps) (lentV b2 m.fns[i].rs) (lentV' b3 m.fns[i].code.length) ∧ b1 < bg ∧ b2 < bg ∧ b3 < bg := by
  have hro : room = 140737488355328 := rfl
  have f1 := hf.gs
  have f2 := hf.arrays
  have f3 := hf.chans
  have f4 := hf.fns
  obtain ⟨vg, va, vc, vf, rfl, h1, h2, h3, h4⟩ := h
  obtain ⟨ag, cg, eg⟩ := lenU h1
  obtain ⟨aa, ca, ea⟩ := lenSA h2
  obtain ⟨ac, cc, ec⟩ := lenU h3
  obtain ⟨af, cf, ef⟩ := h4.len
  obtain ⟨n, hn⟩ : ∃ n, Vec.size H = n := ⟨_, rfl⟩
  refine runs_call rfl rfl ?_
  refine seq_region ?_
  refine ops_cons rfl (does_box (cs := [vg, va, vc, vf]) rfl (by subst eg ea ec ef; rfl) hn fun H1 z1 k1 g1 => ?_)
  refine ops_cons rfl (does_alloc z1 fun H2 z2 k2 g2 => ops_nil ⟨_, rfl, ?_⟩)
  have k02 := k1.trans k2
  have x2 := k2.some g1
  -- the arrays
  refine seq_region (ops_nil ⟨_, rfl, ?_⟩)
  refine seq_region ?_
  refine ops_cons rfl (does_val rfl ?_)
  refine ops_cons rfl (does_load (v := va) rfl x2 rfl ?_)
  refine ops_cons rfl (does_append_allS rfl rfl (h2.ext k02) (sizedA _) (oneA _) (by rw [lenA, hro]; omega) fun v3 H3 a3 k3 => ops_nil ⟨_, rfl, ?_⟩)
  refine seq_region ?_
  refine ops_cons rfl (does_val rfl ?_)
  refine ops_cons rfl (does_op (.slice (some ⟨Vec.size H3, 0, none⟩) 1 3) (anew H3 markA) rfl ?_)
  refine ops_cons rfl (does_append_accS (sz := 2) (base := Vec.size H2) (es := cellsA m.arrays) (new := [markA]) rfl (a3.keep fun j h1 h2 => get_anew_lt h2) rfl rfl (by simp) (fun e he => by simp at he; subst he; rfl) (by simp only [asrc, arow, get_anew_same]; rfl) rfl (by rw [lenA, hro]; simp; omega) (Nat.le_trans k3.size (by rw [size_anew]; omega)) fun v4 H4 a4 o4 s4 => ops_nil ⟨_, rfl, ?_⟩)
  have k24 : Keeps H2 H4 := ⟨Nat.le_trans k3.size (Nat.le_trans (by rw [size_anew]; omega) s4), fun j hj => by
    rw [o4 j hj, get_anew_lt (Nat.lt_of_lt_of_le hj k3.size)]; exact k3.get j hj⟩
  rcases a4.2 with ⟨_, hx⟩ | ⟨ba, hba, rfl, _, ga⟩
  · simp at hx
  have hla : (cellsA m.arrays ++ [markA]).length = m.arrays.length + 1 := by simp [lenA]
  rw [hla]
  have k04 := k02.trans k24
  have x4 := k24.some x2
  have y4 := k24.some g2
  have z4 := k24.size
  -- the functions
  refine seq_region (ops_nil ⟨_, rfl, ?_⟩)
  refine seq_assoc (seq_region (ops_nil ⟨_, rfl, ?_⟩))
  refine seq_loop (fun k T H' ds => ∃ (i : Nat) (s : Value) (ob : Option Nat) (es : List (List Value)) (y6 y7 : Value), k = m.fns.length - i ∧ i ≤ m.fns.length ∧
      (Keeps H4 H' ∧ AccB H' 6 ob s es ∧ es.length = i ∧ (∀ b, ob = some b → Vec.size H4 ≤ b) ∧ ∀ j (hj : j < es.length) (hj' : j < m.fns.length), LFn H' ob es[j] m.fns[j]) ∧
      T = [.agg #[vg, va, vc, vf], .pointer (some ⟨n, 0, none⟩), .pointer (some ⟨n + 1, 0, none⟩), .slice (some ⟨ba, 0, none⟩) (m.arrays.length + 1) (2 * (m.arrays.length + 1)), s, .int .i64 (i : Nat), y6, y7] ∧ ds = []) m.fns.length
    ⟨0, _, none, [], _, _, rfl, Nat.zero_le _, ⟨.refl _, .nil _ _, rfl, fun b hb => (by cases hb), fun j hj => absurd hj (Nat.not_lt_zero _)⟩, rfl, rfl⟩ ?_
  rintro k T H5 ds ⟨i, s, ob, es, y6, y7, rfl, hi, ⟨k45, acc, hlen, hob, each⟩, rfl, rfl⟩
  have x5 := k45.some x4
  have y5 := k45.some y4
  have k05 := k04.trans k45
  have s5 := k45.size
  refine seq_assoc (seq_region ?_)
  refine ops_cons rfl (does_val rfl ?_)
  refine ops_cons rfl (does_load (v := vf) rfl x5 rfl ?_)
  refine ops_cons rfl (does_val (v := .int .i64 (m.fns.length : Nat)) (by subst ef; rfl) ?_)
  refine ops_cons rfl (does_val rfl (ops_nil ⟨_, rfl, ?_⟩))
  by_cases hlt : i < m.fns.length
  · refine seq_cond true (by show some (Value.bool _) = _; simp; omega) (seq_skip ?_)
    obtain ⟨b1, o1, c1, kk1, w1, l1, e, e1, g5, q1, h5, hfn⟩ := (h4.ext k05).at hlt
    refine seq_block (seq_region ?_)
    refine ops_cons rfl (does_val rfl ?_)
    refine ops_cons rfl (does_load (v := vf) rfl x5 rfl ?_)
    refine ops_cons rfl (does_iaddr (j := i) (by subst e1; rfl) rfl hlt ?_)
    refine ops_cons rfl (does_load (v := .agg e.toArray) rfl g5 (acells_some q1 h5) ?_)
    refine ops_cons rfl (does_call rfl rfl ((lentFunction_ok hfn (hf.each _ (List.getElem_mem hlt))).mono ?_))
    rintro ⟨e6, T6, H6, ds6, v6⟩ ⟨e', rfl, lf, k56, d1, d2, d3, rfl, n1, n2, n3⟩
    simp only at lf k56
    obtain ⟨n6, hn6⟩ : ∃ n, Vec.size H6 = n := ⟨_, rfl⟩
    have s6 := k56.size
    refine ops_cons rfl (does_alloc hn6 fun H7 z7 (k67 : Keeps H6 H7) g7 => ?_)
    refine ops_cons rfl (does_store rfl rfl rfl rfl rfl g7 (Nat.zero_le _) (show 6 ≤ 6 by omega) (ops_nil ⟨_, rfl, ?_⟩))
    obtain ⟨H8, hH8⟩ : ∃ H8, Vec.set H7 n6 (.arr (fnCells m.fns[i] (lentV d1 m.fns[i].ps) (lentV d2 m.fns[i].rs) (lentV' d3 m.fns[i].code.length)) true 0) = H8 := ⟨_, rfl⟩
    have g8 : Vec.get H8 n6 = some (.arr (fnCells m.fns[i] (lentV d1 m.fns[i].ps) (lentV d2 m.fns[i].rs) (lentV' d3 m.fns[i].code.length)) true 0) := by rw [← hH8]; exact get_set_same (by omega)
    have k68 : Keeps H6 H8 := by rw [← hH8]; exact k67.set _ (by omega)
    show ARuns E (.code false _ _ (Vec.set H7 n6 (.arr (fnCells m.fns[i] (lentV d1 m.fns[i].ps) (lentV d2 m.fns[i].rs) (lentV' d3 m.fns[i].code.length)) true 0)) []) _
    rw [hH8]
    clear hH8
    have k58 := k56.trans k68
    have s8 := k58.size
    refine runs_region ?_
    refine ops_cons rfl (does_load (v := .agg (fnCells m.fns[i] (lentV d1 m.fns[i].ps) (lentV d2 m.fns[i].rs) (lentV' d3 m.fns[i].code.length)).toArray) rfl g8 rfl ?_)
    refine ops_cons rfl (does_op (.slice (some ⟨Vec.size H8, 0, none⟩) 1 3) (anew H8 (fnCells m.fns[i] (lentV d1 m.fns[i].ps) (lentV d2 m.fns[i].rs) (lentV' d3 m.fns[i].code.length))) rfl ?_)
    have k59 := k58.anew (fnCells m.fns[i] (lentV d1 m.fns[i].ps) (lentV d2 m.fns[i].rs) (lentV' d3 m.fns[i].code.length))
    refine ops_cons rfl (does_append_accB (sz := 6) (ob := ob) (es := es) (new := [fnCells m.fns[i] (lentV d1 m.fns[i].ps) (lentV d2 m.fns[i].rs) (lentV' d3 m.fns[i].code.length)]) rfl (acc.keep fun j hj => k59.get j hj) rfl rfl (by simp) (fun e he => by simp at he; subst he; rfl) (by simp only [asrc, arow, get_anew_same]; rfl) rfl (by rw [hlen, hro]; simp; omega) fun v9 H9 a9 o9 s9 => ops_nil ⟨_, rfl, ?_⟩)
    rw [size_anew] at a9 o9 s9
    show ARuns E _ _
    refine runs_region (ops_cons rfl (does_inc rfl rfl (by omega) (ops_nil ⟨_, rfl, ?_⟩)))
    have old : ∀ j, j < Vec.size H8 → some j ≠ ob → Vec.get H9 j = Vec.get H8 j := fun j hj hne => by
      rw [o9 j (by omega) hne, get_anew_lt hj]
    have k49 : Keeps H4 H9 := ⟨by omega, fun j hj => by
      have hne : some j ≠ ob := fun hh => by have := hob j hh.symm; omega
      rw [old j (by omega) hne, k58.get j (by omega)]
      exact k45.get j hj⟩
    refine ⟨m.fns.length - (i + 1), by omega, i + 1, _, _, _, _, _, rfl, by omega, ⟨k49, a9, by simp [hlen], fun b hb => ?_, fun j hj hj' => ?_⟩, rfl, rfl⟩
    · cases hb; omega
    · by_cases hji : j < es.length
      · have hg : (es ++ [fnCells m.fns[i] (lentV d1 m.fns[i].ps) (lentV d2 m.fns[i].rs) (lentV' d3 m.fns[i].code.length)])[j] = es[j] := List.getElem_append_left hji
        rw [hg]
        exact (each j hji hj').keep (fun j hj hne => by rw [old j (by omega) hne, k58.get j hj]) (fun j hj _ hh => by cases hh; omega)
      · have hj1 : j = i := by
          rw [List.length_append, List.length_singleton] at hj
          omega
        subst hj1
        have hg : (es ++ [fnCells m.fns[j] (lentV d1 m.fns[j].ps) (lentV d2 m.fns[j].rs) (lentV' d3 m.fns[j].code.length)])[j] = fnCells m.fns[j] (lentV d1 m.fns[j].ps) (lentV d2 m.fns[j].rs) (lentV' d3 m.fns[j].code.length) := by
          rw [List.getElem_append_right (by omega)]; simp
        rw [hg]
        have hfresh : ∀ b, Vec.size H5 ≤ b → some b ≠ ob := fun b hb hh => by have := acc.lt hh.symm; omega
        obtain ⟨q1, q2, q3, hq, p1, p2, p3, _⟩ := lf
        have hinj : q1 = d1 ∧ q2 = d2 ∧ q3 = d3 := by
          simp only [fnCells, lentV, lentV', List.cons.injEq, Value.slice.injEq, Option.some.injEq, Addr.mk.injEq, and_true, true_and] at hq
          exact ⟨hq.1.symm, hq.2.1.symm, hq.2.2.symm⟩
        obtain ⟨rfl, rfl, rfl⟩ := hinj
        have lf6 : LFn H6 ob (fnCells m.fns[j] (lentV q1 m.fns[j].ps) (lentV q2 m.fns[j].rs) (lentV' q3 m.fns[j].code.length)) m.fns[j] := ⟨q1, q2, q3, rfl, p1, p2, p3, hfresh _ n1, hfresh _ n2, hfresh _ n3⟩
        exact lf6.keep (fun j hj hne => by rw [old j (by have := k68.size; omega) hne, k68.get j hj]) (fun j hj _ hh => by cases hh; have := k68.size; omega)
  refine seq_cond false (by show some (Value.bool _) = _; simp; omega) (seq_exit ?_)
  show ARuns E _ _
  have hi' : i = m.fns.length := by omega
  subst hi'
  -- the mark behind them
  refine seq_region ?_
  refine ops_cons rfl (does_val rfl ?_)
  refine ops_cons rfl (does_op (.slice (some ⟨Vec.size H5, 0, none⟩) 1 3) (anew H5 markF) rfl ?_)
  have k5m : Keeps H5 (anew H5 markF) := (Keeps.refl H5).anew markF
  refine ops_cons rfl (does_append_accB (sz := 6) (ob := ob) (es := es) (new := [markF]) rfl (acc.keep fun j hj => k5m.get j hj) rfl rfl (by simp) (fun e he => by simp at he; subst he; rfl) (by simp only [asrc, arow, get_anew_same]; rfl) rfl (by rw [hlen, hro]; simp; omega) fun v6 H6 a6 o6 s6 => ops_nil ⟨_, rfl, ?_⟩)
  rw [size_anew] at a6 o6 s6
  have old : ∀ j, j < Vec.size H5 → some j ≠ ob → Vec.get H6 j = Vec.get H5 j := fun j hj hne => by
    rw [o6 j (by omega) hne, get_anew_lt hj]
  have k46 : Keeps H4 H6 := ⟨by omega, fun j hj => by
    have hne : some j ≠ ob := fun hh => by have := hob j hh.symm; omega
    rw [old j (by omega) hne]; exact k45.get j hj⟩
  rcases a6.2 with ⟨_, _, hx⟩ | ⟨bf, hbf, rfl, _, gf⟩
  · simp at hx
  have hlf : (es ++ [markF]).length = m.fns.length + 1 := by simp [hlen]
  rw [hlf]
  have each6 : ∀ j (hj : j < es.length) (hj' : j < m.fns.length), LFn H6 none es[j] m.fns[j] := fun j hj hj' =>
    (each j hj hj').keep old (fun j _ _ => by simp)
  have x6 := k46.some x4
  have y6 := k46.some y4
  have k06 := k04.trans k46
  have ga6 := k46.some ga
  -- the module
  refine seq_draw ?_
  refine draws_cons rfl (does_val rfl ⟨rfl, Nat.le_refl _, ?_⟩)
  refine draws_cons rfl (does_load (v := vg) rfl x6 rfl ⟨rfl, Nat.le_refl _, ?_⟩)
  refine draws_cons rfl (does_call rfl rfl ((lent_ok (h1.ext k06) f1).mono ?_))
  rintro ⟨e7, T7, H7, ds7, v7⟩ ⟨bg, p7, rfl, q7, k67⟩
  simp only at q7 k67
  have s7 := k67.size
  refine ⟨rfl, k67.size, ?_⟩
  refine draws_cons rfl (does_val rfl ⟨rfl, Nat.le_refl _, ?_⟩)
  refine draws_cons rfl (does_load (v := vc) rfl (k67.some x6) rfl ⟨loadOk_of rfl h3.slice.1 ?_, Nat.le_refl _, ?_⟩)
  · intro K hK
    have : K = H6 := by simpa [isEff] using hK
    subst this
    exact aload_of x6 rfl
  have k07 := k06.trans k67
  refine draws_cons rfl (does_call rfl rfl ((lent_ok (h3.ext k07) f3).mono ?_))
  rintro ⟨e8, T8, H8, ds8, v8⟩ ⟨bc, p8, rfl, q8, k78⟩
  simp only at p8 q8 k78
  have s8 := k78.size
  refine ⟨rfl, k78.size, ?_⟩
  have k68 := k67.trans k78
  refine draws_cons rfl (does_val rfl ⟨rfl, Nat.le_refl _, ?_⟩)
  refine draws_cons rfl (does_load (v := va) rfl (k68.some x6) rfl ⟨loadOk_of rfl h2.slice.1 ?_, Nat.le_refl _, ?_⟩)
  · intro K hK
    have : K = H7 ∨ K = H6 := by simpa [isEff] using hK
    rcases this with rfl | rfl
    · exact aload_of (k67.some x6) rfl
    · exact aload_of x6 rfl
  refine draws_cons rfl (does_val (v := .int .i64 (m.arrays.length : Nat)) (by subst ea; rfl) ⟨rfl, Nat.le_refl _, ?_⟩)
  refine draws_cons rfl (does_cut rfl rfl (by omega) (by omega) (by omega) ⟨rfl, Nat.le_refl _, ?_⟩)
  refine draws_cons rfl (does_val rfl ⟨rfl, Nat.le_refl _, ?_⟩)
  refine draws_cons rfl (does_load (v := vf) rfl (k68.some x6) rfl ⟨loadOk_of rfl (by rw [ef]; exact veq_slice _ _ _) ?_, Nat.le_refl _, ?_⟩)
  · intro K hK
    have : K = H7 ∨ K = H6 := by simpa [isEff] using hK
    rcases this with rfl | rfl
    · exact aload_of (k67.some x6) rfl
    · exact aload_of x6 rfl
  refine draws_cons rfl (does_val (v := .int .i64 (m.fns.length : Nat)) (by subst ef; rfl) ⟨rfl, Nat.le_refl _, ?_⟩)
  refine draws_cons rfl (does_cut rfl rfl (by omega) (by omega) (by omega) ⟨rfl, Nat.le_refl _, ?_⟩)
  refine draws_cons rfl (does_val rfl ⟨rfl, Nat.le_refl _, ?_⟩)
  have y8 := k68.some y6
  refine draws_cons rfl (does_store rfl rfl rfl rfl rfl y8 (Nat.zero_le _) (show 4 ≤ 4 by omega) ⟨rfl, by rw [Vec.size_set]; exact Nat.le_refl _, draws_nil ⟨_, rfl, ?_⟩⟩)
  have z6 := k46.size
  have kset : Keeps H (Vec.set H8 (n + 1) (.arr [lentV bg m.gs, lentV' ba m.arrays.length, lentV bc m.chans, lentV' bf m.fns.length] true 0)) := (k06.trans k68).set _ (by omega)
  have hne : ∀ j, j ≠ n + 1 → Vec.get (Vec.set H8 (n + 1) (.arr [lentV bg m.gs, lentV' ba m.arrays.length, lentV bc m.chans, lentV' bf m.fns.length] true 0)) j = Vec.get H8 j := fun j hj => get_set_ne (Ne.symm hj)
  have lbf : Vec.size H5 + 1 = bf := by cases hbf; rfl
  refine runs_ret ⟨.inr rfl, _, _, rfl, ares_cell rfl (get_set_same (Vec.get_lt _ _ _ y8)) rfl rfl, bg, ba, bc, bf, es, ⟨rfl, ?_, ?_, ?_, ?_, hlen, ?_⟩, kset, ⟨?_, ?_, ?_, ?_⟩, ?_⟩
  · exact (hne bg (by omega)).trans (k78.some q7)
  · exact (hne ba (by omega)).trans (k68.some ga6)
  · exact (hne bc (by omega)).trans q8
  · exact (hne bf (by omega)).trans (k68.some gf)
  · intro j hj hj'
    have hf8 := (each6 j hj hj').ext k68
    obtain ⟨q1, q2, q3, hq, p1, p2, p3, _⟩ := hf8
    exact ⟨q1, q2, q3, hq, (hne q1 (fun e => by subst e; exact lent_ne p1 y8)).trans p1, (hne q2 (fun e => by subst e; exact lent_ne p2 y8)).trans p2, (hne q3 (fun e => by subst e; exact lentC_ne p3 y8)).trans p3, by simp, by simp, by simp⟩
  · have := k02.size; omega
  · have := Vec.get_lt _ _ _ ga; have := k45.size; omega
  · have := Vec.get_lt _ _ _ gf; omega
  · have := Vec.get_lt _ _ _ q7; omega
  · intro j hj hj'
    obtain ⟨q1, q2, q3, hq, p1, p2, p3, _⟩ := each6 j hj hj'
    exact ⟨q1, q2, q3, hq, Nat.lt_of_lt_of_le (Vec.get_lt _ _ _ p1) p7, Nat.lt_of_lt_of_le (Vec.get_lt _ _ _ p2) p7, Nat.lt_of_lt_of_le (Vec.get_lt _ _ _ p3) p7⟩
theorem lentModule_ok {v : Value} {H : AH TV} {m : Md} (h : MdAt H v m) (hf : MdFits m) :
    ARuns E (.call 13 [v] H) fun r => ∃ bg ba bc bf es, LMd r.H r.v m bg ba bc bf es ∧ Keeps H r.H :=
  (lentModule_new h hf).mono fun r ⟨bg, ba, bc, bf, es, h1, h2, _⟩ => ⟨bg, ba, bc, bf, es, h1, h2⟩
theorem max_i64 (a b : Int) (ts : Array TypeId) (t : TypeId) : aflat Try.prog (.max ts t) [.int .i64 a, .int .i64 b] = some (.int .i64 (max a b)) := by
  simp only [aflat]
  rw [if_pos (by simp [flat, flat1])]
  show (match pureRun Try.prog (Builtin.max_ ts t #[.int .i64 a, .int .i64 b]) with | some v => if flat v = true then some v else none | none => none) = _
  simp only [Builtin.max_, List.foldlM_cons, List.foldlM_nil, pureRun_bind, Builtin.max2, pureRun_pure]
  show some (Value.int .i64 (if b > a then b else a)) = _
  rw [show (if b > a then b else a) = max a b by split <;> omega]
theorem min_i64 (a b : Int) (ts : Array TypeId) (t : TypeId) : aflat Try.prog (.min ts t) [.int .i64 a, .int .i64 b] = some (.int .i64 (min a b)) := by
  simp only [aflat]
  rw [if_pos (by simp [flat, flat1])]
  show (match pureRun Try.prog (Builtin.min_ ts t #[.int .i64 a, .int .i64 b]) with | some v => if flat v = true then some v else none | none => none) = _
  simp only [Builtin.min_, List.foldlM_cons, List.foldlM_nil, pureRun_bind, Builtin.min2, pureRun_pure]
  show some (Value.int .i64 (if b < a then b else a)) = _
  rw [show (if b < a then b else a) = min a b by split <;> omega]
theorem does_faddr {T L : List Value} {H : AH TV} {Q : Value → AH TV → Prop} {x : AM.Src} {b o off : Nat} (hx : sev T L x = some (.pointer (some ⟨b, o, none⟩))) (hq : Q (.pointer (some ⟨b, o + off, none⟩)) H) : ADoes E T L (.faddr off x) H Q :=
  does_op _ H (by simp [aexec, x1, hx, fFaddr, add_none, withH]) hq
def rangeOps (b : Nat) : List AOper := [⟨.bin .lss (.tmp 1) (.const (.int .i64 0)), none, 0⟩, ⟨.mov (.tmp 1), (some ((.loc 0), false)), 0⟩, ⟨.faddr 3 (.tmp b), (some ((.loc 1), false)), 0⟩, ⟨.load none (.loc 0), (some ((.loc 2), false)), 0⟩, ⟨.len (.loc 0), (some ((.loc 3), false)), 0⟩, ⟨.bin .geq (.loc 3) (.loc 0), (some ((.loc 4), false)), 0⟩, ⟨.pick (.loc 5) (.const (.bool true)) (.loc 0), none, 0⟩]
theorem range_ok {T : AT} {H : AH TV} {Q : List Value → AH TV → Prop} {b n len cf : Nat} {f : Int} {vg va vc : Value} {af : Option Addr} {w : Bool} {lo : Nat} (t1 : T[1]? = some (.int .i64 f)) (tb : T[b]? = some (.pointer (some ⟨n, 0, none⟩))) (g : Vec.get H n = some (.arr [vg, va, vc, .slice af len cf] w lo))
    (hq : ∀ L, Q (.bool (decide (¬ (0 ≤ f ∧ f < len))) :: L) H) : AOps E T (rangeOps b) [] H Q := by
  unfold rangeOps
  by_cases h0 : f < 0
  · refine ops_cons rfl (does_op (.bool true) H (by simp [aexec, x2, sev, t1, abin, abinK, abinI, someBool, withH, h0]) ?_)
    refine ops_not rfl (ops_not rfl (ops_not rfl (ops_not rfl (ops_not rfl ?_))))
    refine ops_cons rfl (does_val rfl (ops_nil ?_))
    have := hq
    rw [decide_eq_true (show ¬ (0 ≤ f ∧ f < len) by omega)] at this
    exact this _
  · refine ops_cons rfl (does_op (.bool false) H (by simp [aexec, x2, sev, t1, abin, abinK, abinI, someBool, withH, h0]) ?_)
    refine ops_cons rfl (does_val (v := .int .i64 f) (by simp [aexec, sev, t1, withH]) ?_)
    refine ops_cons rfl (does_faddr tb ?_)
    refine ops_cons rfl (does_load (v := .slice af len cf) rfl g rfl ?_)
    refine ops_cons rfl (does_val rfl ?_)
    refine ops_cons rfl (does_val rfl ?_)
    refine ops_cons rfl (does_val (v := .bool (decide (¬ (0 ≤ f ∧ f < len)))) (by
      show some (Value.bool (decide (f ≥ (len : Int))), H) = _
      congr 3
      rw [decide_eq_decide]
      omega) (ops_nil ?_))
    exact hq _
def fnOf (m : Md) (f : Int) : Fn := m.fns.getD f.toNat ⟨0, [], [], 0, 0, []⟩
def locSpec (m : Md) (f : Int) : Int := if 0 ≤ f ∧ f < m.fns.length then (fnOf m f).ps.length + min (max 0 (fnOf m f).locals) 32 else 0
theorem fnOf_at {m : Md} {j : Nat} (h : j < m.fns.length) : fnOf m (j : Int) = m.fns[j] := by
  simp [fnOf, List.getD, h]
/-- One of a module's functions, in a box of the module. -/
theorem fn_at {H : AH TV} {vf : Value} {m : Md} (h : Fns H vf m.fns) {j : Nat} (hj : j < m.fns.length) : ∃ b off ce blk w lo vp vr vc, vf = .slice (some ⟨b, off, none⟩) m.fns.length ce ∧ Vec.get H b = some (.arr blk w lo) ∧ (blk.drop (off + j * 6)).take 6 = fnCells (fnOf m j) vp vr vc ∧ off + j * 6 + 6 ≤ blk.length ∧
    RowOf H vp (cellsU (fnOf m j).ps) ∧ RowOf H vr (cellsU (fnOf m j).rs) ∧ RowS H vc (cellsC (fnOf m j).code) := by
  obtain ⟨b, off, ce, blk, w, lo, e, h1, h2, h3, h4, vp, vr, vc, rfl, h5, h6, h7⟩ := h.at hj
  rw [fnOf_at hj]
  exact ⟨b, off, ce, blk, w, lo, vp, vr, vc, h1, h2, h3, h4, h5, h6, h7⟩
set_option maxHeartbeats 1000000 in
theorem locals_ok {v : Value} {H : AH TV} {m : Md} {f : Int} (h : MdAt H v m) (hf : MdFits m) : ARuns E (.call 53 [v, .int .i64 f] H) fun r => r.v = .int .i64 (locSpec m f) ∧ Keeps H r.H := by
  have hro : room = 140737488355328 := rfl
  obtain ⟨vg, va, vc, vf, rfl, h1, h2, h3, h4⟩ := h
  obtain ⟨ag, cg, eg⟩ := lenU h1
  obtain ⟨aa, ca, ea⟩ := lenSA h2
  obtain ⟨ac, cc, ec⟩ := lenU h3
  obtain ⟨af, cf, ef⟩ := h4.len
  obtain ⟨n, hn⟩ : ∃ n, Vec.size H = n := ⟨_, rfl⟩
  refine runs_call rfl rfl ?_
  refine seq_region ?_
  refine ops_cons rfl (does_box (cs := [vg, va, vc, vf]) rfl (by subst eg ea ec ef; rfl) hn fun H1 z1 k1 g1 => ops_nil ⟨_, rfl, ?_⟩)
  refine seq_assoc (seq_region (range_ok rfl rfl (by rw [ef] at g1; exact g1) fun L => ⟨_, rfl, ?_⟩))
  by_cases hr : 0 ≤ f ∧ f < m.fns.length
  · refine seq_cond false (by show some (Value.bool (decide _)) = _; simp [hr]) (seq_skip ?_)
    obtain ⟨j, rfl⟩ := Int.eq_ofNat_of_zero_le hr.1
    have hj : j < m.fns.length := by omega
    obtain ⟨b, off, ce, blk, w, lo, vp, vr, vcd, e1, g2, q, hb, r1, r2, r3⟩ := fn_at (h4.ext k1) hj
    obtain ⟨ap, cp, ep⟩ := lenU r1
    have hfit := hf.each _ (List.getElem_mem hj)
    rw [← fnOf_at hj] at hfit
    have hp := hfit.1
    refine seq_draw ?_
    refine draws_cons rfl (does_val rfl ⟨rfl, Nat.le_refl _, ?_⟩)
    refine draws_cons rfl (does_load (v := vf) rfl g1 rfl ⟨rfl, Nat.le_refl _, ?_⟩)
    refine draws_cons rfl (does_iaddr (j := j) (by rw [e1]; rfl) rfl hj ⟨rfl, Nat.le_refl _, ?_⟩)
    refine draws_cons rfl (does_val rfl ⟨rfl, Nat.le_refl _, ?_⟩)
    refine draws_cons rfl (does_load (v := vp) rfl g2 (acells_at (j := 1) q rfl) ⟨rfl, Nat.le_refl _, ?_⟩)
    refine draws_cons rfl (does_val (v := .int .i64 ((fnOf m j).ps.length : Nat)) (by rw [ep]; rfl) ⟨rfl, Nat.le_refl _, ?_⟩)
    refine draws_cons rfl (does_val rfl ⟨rfl, Nat.le_refl _, ?_⟩)
    refine draws_cons rfl (does_load (v := vf) rfl g1 rfl ⟨rfl, Nat.le_refl _, ?_⟩)
    refine draws_cons rfl (does_iaddr (j := j) (by rw [e1]; rfl) rfl hj ⟨rfl, Nat.le_refl _, ?_⟩)
    refine draws_cons rfl (does_val rfl ⟨rfl, Nat.le_refl _, ?_⟩)
    refine draws_cons rfl (does_load (v := .int .i64 (fnOf m j).locals) rfl g2 (acells_at (j := 3) q rfl) ⟨rfl, Nat.le_refl _, ?_⟩)
    refine draws_cons rfl (does_flat rfl (max_i64 _ _ _ _) ⟨rfl, Nat.le_refl _, ?_⟩)
    refine draws_cons rfl (does_flat rfl (min_i64 _ _ _ _) ⟨rfl, Nat.le_refl _, ?_⟩)
    refine draws_cons rfl (does_val (v := .int .i64 (locSpec m j)) (by
      show some (Value.int .i64 (aw .i64 (((fnOf m j).ps.length : Nat) + min (max 0 (fnOf m j).locals) 32)), _) = _
      rw [aw64 (by omega) (by omega), locSpec, if_pos hr]) ⟨rfl, Nat.le_refl _, draws_nil ⟨_, rfl, ?_⟩⟩)
    exact runs_ret ⟨.inr rfl, _, _, rfl, rfl, rfl, k1⟩
  · refine seq_cond true (by show some (Value.bool (decide _)) = _; simp [hr]) ?_
    refine seq_assoc (seq_region (ops_nil ⟨_, rfl, ?_⟩))
    refine seq_ret ⟨.inr rfl, _, _, rfl, rfl, ?_, k1⟩
    show Value.int .i64 0 = _
    rw [locSpec, if_neg hr]
end Go.Proofs.Ytollibkfagjnaaa.Shape
