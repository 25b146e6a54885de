/- The shape laws: the law on more: a nop ahead of a function. -/
import Derived.Test.YtnngilpiajgobaaShapeMoreA
set_option linter.unusedVariables false
set_option linter.unusedSimpArgs false
set_option maxRecDepth 10000
namespace Go.Proofs.Ytnngilpiajgobaa.Shape
open Go.Proofs.Ytnngilpiajgobaa.AM
theorem seq_cut {a k : ACode} {T : AT} {H : AH TV} {ds : List Nat} {Q : Res TV → Prop} (P : AT → AH TV → Prop) (h : ARuns E (.code false a T H ds) fun r => r.e = .norm ∧ r.ds = ds ∧ P r.T r.H) (hk : ∀ T' H', P T' H' → ARuns E (.code false k T' H' ds) Q) : ARuns E (.code false (.seq a k) T H ds) Q :=
  runs_seq (h.mono fun r hr => by
    obtain ⟨e, T', H', d, v⟩ := r
    obtain ⟨rfl, rfl, p⟩ := hr
    exact hk _ _ p)
def mT (v : Value) (l f : Int) (n : Nat) (r : Value) (n5 : Nat) (x6 x7 x8 x9 x10 x11 x12 x13 x14 x15 : Value) : List Value := [v, .int .u64 l, .int .i64 f, .pointer (some ⟨n, 0, none⟩), r, .pointer (some ⟨n5, 0, none⟩), x6, x7, x8, x9, x10, x11, x12, x13, x14, x15]
def tl : ACode → ACode
  | .seq _ b => b
  | c => c
noncomputable def rest7 : ACode := tl (tl (tl (tl (tl c7.body))))
/-- What was written so far. -/
def nopN (code : List (Int × Int)) (i : Nat) : List (List Value) := cellsC ((42, 0) :: (code.take i).map shI)
theorem nopN_succ {code : List (Int × Int)} {i : Nat} (hi : i < code.length) : nopN code (i + 1) = nopN code i ++ [[.int .i64 (code[i]).1, .int .i64 (shI code[i]).2]] := by
  unfold nopN
  rw [List.take_succ_eq_append_getElem hi, List.map_append, ← List.cons_append]
  unfold cellsC
  rw [List.map_append]
  rfl
theorem nopN_len {code : List (Int × Int)} {i : Nat} (hi : i ≤ code.length) : (nopN code i).length = i + 1 := by
  simp [nopN, cellsC, List.length_take, Nat.min_eq_left hi]
theorem nopN_end (code : List (Int × Int)) : nopN code code.length = cellsC (nopL code) := by
  simp [nopN, nopL]
set_option maxHeartbeats 4000000 in
theorem more_tail {H : AH TV} {m mt : Md} {n n5 bf : Nat} {l f : Int} {es : List (List Value)} {v : Value} {ag aa ac af : Option Addr} {cg ca cc cf : Nat} {vg va vc x6 x7 x8 x9 x10 x11 x12 x13 x14 x15 : Value} {Q : Res TV → Prop}
    (g : Vec.get H n = some (.arr [.slice ag m.gs.length cg, .slice aa m.arrays.length ca, .slice ac m.chans.length cc, .slice af m.fns.length cf] true 0))
    (h4 : Fns H (.slice af m.fns.length cf) m.fns) (hf : MdFits m) (gt : Vec.get H n5 = some (.arr [vg, va, vc, lentV' bf m.fns.length] true 0))
    (rows : ∀ H' : AH TV, (∀ j, j < Vec.size H → j ≠ bf → Vec.get H' j = Vec.get H j) → RowOf H' vg (cellsU mt.gs) ∧ RowS H' va (cellsA mt.arrays) ∧ RowOf H' vc (cellsU mt.chans))
    (gf : Vec.get H bf = some (.arr (es ++ [markF]).flatten true 0)) (hes : es.length = m.fns.length) (each : ∀ i (h : i < es.length) (h' : i < m.fns.length), LFn H none es[i] m.fns[i])
    (hfns : mt.fns = m.fns) (good : Good mt) (fits : MdFits mt) (hne : n5 ≠ bf)
    (hQ : ∀ H' y6 y7 y8 y9 y10 y11 y12 y13 y14 y15, Q ⟨.ret, mT v l f n (.bool true) n5 y6 y7 y8 y9 y10 y11 y12 y13 y14 y15, H', [], undef⟩) :
    ARuns E (.code false rest7 (mT v l f n (.bool false) n5 x6 x7 x8 x9 x10 x11 x12 x13 x14 x15) H []) Q := by
  have hro : room = 140737488355328 := rfl
  have f2 := hf.fns
  have hbfl := Vec.get_lt _ _ _ gf
  refine seq_assoc (seq_region ?_)
  by_cases hf0 : f < 0
  · refine ops_cons rfl (does_val (v := .bool true) (by show some (Value.bool (decide (f < 0)), _) = _; rw [decide_eq_true hf0]) ?_)
    refine ops_not rfl (ops_not rfl (ops_not rfl (ops_not rfl (ops_not rfl ?_))))
    refine ops_cons rfl (does_val (v := .bool true) rfl ?_)
    refine ops_not rfl (ops_not rfl (ops_not rfl (ops_not rfl (ops_not rfl (ops_not rfl (ops_not rfl (ops_not rfl ?_)))))))
    refine ops_cons rfl (does_val (v := .bool true) rfl (ops_nil ⟨mT v l f n (.bool false) n5 x6 x7 x8 x9 x10 x11 x12 (.bool true) x14 x15, rfl, ?_⟩))
    refine seq_cond true rfl ?_
    refine seq_assoc (seq_region (ops_nil ⟨mT v l f n (.bool true) n5 x6 x7 x8 x9 x10 x11 x12 (.bool true) x14 x15, rfl, ?_⟩))
    exact seq_ret (hQ _ _ _ _ _ _ _ _ _ _ _)
  obtain ⟨i, rfl⟩ : ∃ i : Nat, f = i := ⟨f.toNat, by omega⟩
  refine ops_cons rfl (does_val (v := .bool false) (by show some (Value.bool (decide _), _) = _; simp) ?_)
  refine ops_cons rfl (does_val rfl ?_)
  refine ops_cons rfl (does_val rfl ?_)
  refine ops_cons rfl (does_load (v := .slice af m.fns.length cf) rfl g rfl ?_)
  refine ops_cons rfl (does_val (v := .int .i64 (m.fns.length : Nat)) rfl ?_)
  by_cases hi : i < m.fns.length
  case neg =>
    refine ops_cons rfl (does_val (v := .bool true) (by show some (Value.bool (decide _), _) = _; simp; omega) ?_)
    refine ops_cons rfl (does_val (v := .bool true) rfl ?_)
    refine ops_not rfl (ops_not rfl (ops_not rfl (ops_not rfl (ops_not rfl (ops_not rfl (ops_not rfl (ops_not rfl ?_)))))))
    refine ops_cons rfl (does_val (v := .bool true) rfl (ops_nil ⟨mT v l i n (.bool false) n5 x6 x7 x8 x9 x10 x11 x12 (.bool true) x14 x15, rfl, ?_⟩))
    refine seq_cond true rfl ?_
    refine seq_assoc (seq_region (ops_nil ⟨mT v l i n (.bool true) n5 x6 x7 x8 x9 x10 x11 x12 (.bool true) x14 x15, rfl, ?_⟩))
    exact seq_ret (hQ _ _ _ _ _ _ _ _ _ _ _)
  obtain ⟨b, off, ce, blk, w, lo, vp, vr, vcd, e1, g2, p, hb, r1, r2, r3⟩ := fn_at h4 hi
  obtain ⟨ax, cx, ex⟩ := lenSC r3
  refine ops_cons rfl (does_val (v := .bool false) (by show some (Value.bool (decide _), _) = _; simp; omega) ?_)
  refine ops_cons rfl (does_val (v := .bool false) rfl ?_)
  refine ops_cons rfl (does_val rfl ?_)
  refine ops_cons rfl (does_load (v := .slice af m.fns.length cf) rfl g rfl ?_)
  refine ops_cons rfl (does_val rfl ?_)
  refine ops_cons rfl (does_iaddr (j := i) (by rw [e1]; rfl) rfl hi ?_)
  refine ops_cons rfl (does_val rfl ?_)
  refine ops_cons rfl (does_load (v := vcd) rfl g2 (acells_at (j := 5) p rfl) ?_)
  refine ops_cons rfl (does_val (v := .int .i64 (((fnOf m i).code.length : Nat) : Int)) (by rw [ex]; rfl) ?_)
  by_cases hc : (fnOf m i).code.length < 2048
  case neg =>
    refine ops_cons rfl (does_val (v := .bool true) (by show some (Value.bool (decide _), _) = _; simp; omega) ?_)
    refine ops_cons rfl (does_val (v := .bool true) rfl (ops_nil ⟨mT v l i n (.bool false) n5 x6 x7 x8 x9 x10 x11 x12 (.bool true) x14 x15, rfl, ?_⟩))
    refine seq_cond true rfl ?_
    refine seq_assoc (seq_region (ops_nil ⟨mT v l i n (.bool true) n5 x6 x7 x8 x9 x10 x11 x12 (.bool true) x14 x15, rfl, ?_⟩))
    exact seq_ret (hQ _ _ _ _ _ _ _ _ _ _ _)
  refine ops_cons rfl (does_val (v := .bool false) (by show some (Value.bool (decide _), _) = _; simp; omega) ?_)
  refine ops_cons rfl (does_val (v := .bool false) rfl (ops_nil ⟨mT v l i n (.bool false) n5 x6 x7 x8 x9 x10 x11 x12 (.bool false) x14 x15, rfl, ?_⟩))
  refine seq_cond false rfl (seq_skip ?_)
  obtain ⟨z, hz⟩ : ∃ z, Vec.size H = z := ⟨_, rfl⟩
  refine seq_region ?_
  refine ops_cons rfl (does_val (v := .agg #[.int .i64 42, .int .i64 0]) rfl ?_)
  refine ops_cons rfl (does_op (.slice (some ⟨Vec.size H, 0, none⟩) 1 3) (anew H [.int .i64 42, .int .i64 0]) rfl (ops_nil ⟨mT v l i n (.bool false) n5 (.slice (some ⟨Vec.size H, 0, none⟩) 1 3) x7 x8 x9 x10 x11 x12 (.bool false) x14 x15, rfl, ?_⟩))
  have acc0 : AccM (anew H [.int .i64 42, .int .i64 0]) 2 z (.slice (some ⟨Vec.size H, 0, none⟩) 1 3) (nopN (fnOf m i).code 0) := by
    refine ⟨fun e he => ?_, Vec.size H, 3, by omega, rfl, .inr rfl, by simp [nopN, cellsC], ?_⟩
    · simp [nopN, cellsC] at he; subst he; rfl
    · rw [get_anew_same]; simp [nopN, cellsC]
  generalize hs6 : Value.slice (some ⟨Vec.size H, 0, none⟩) 1 3 = s6 at acc0 ⊢
  clear hs6
  have o0 : ∀ j, j < z → Vec.get (anew H [.int .i64 42, .int .i64 0]) j = Vec.get H j := fun j hj => get_anew_lt (by omega)
  have q0 : z ≤ Vec.size (anew H [.int .i64 42, .int .i64 0]) := by rw [size_anew]; omega
  generalize anew H [.int .i64 42, .int .i64 0] = H0 at acc0 o0 q0 ⊢
  refine seq_assoc (seq_region (ops_nil ⟨mT v l i n (.bool false) n5 s6 (.int .i64 0) x8 x9 x10 x11 x12 (.bool false) x14 x15, rfl, ?_⟩))
  have nl := Vec.get_lt _ _ _ g
  have bl := Vec.get_lt _ _ _ g2
  refine seq_loop (fun q T H' ds => ∃ (a : Nat) (s y8 y9 y10 y11 y12 y13 y14 y15 : Value), q = (fnOf m i).code.length - a ∧ a ≤ (fnOf m i).code.length ∧ T = mT v l i n (.bool false) n5 s (.int .i64 (a : Nat)) y8 y9 y10 y11 y12 y13 y14 y15 ∧ AccM H' 2 z s (nopN (fnOf m i).code a) ∧ (∀ j, j < z → Vec.get H' j = Vec.get H j) ∧ z ≤ Vec.size H' ∧ ds = []) (fnOf m i).code.length ⟨0, _, _, _, _, _, _, _, _, _, rfl, Nat.zero_le _, rfl, acc0, o0, q0, rfl⟩ ?_
  rintro q T H1 ds ⟨a, s, y8, y9, y10, y11, y12, y13, y14, y15, rfl, ha, rfl, acc, o1, q1, rfl⟩
  have gA : Vec.get H1 n = _ := (o1 n (by omega)).trans g
  have gB : Vec.get H1 b = _ := (o1 b (by omega)).trans g2
  refine seq_assoc (seq_region ?_)
  refine ops_cons rfl (does_val rfl ?_)
  refine ops_cons rfl (does_load (v := .slice af m.fns.length cf) rfl gA rfl ?_)
  refine ops_cons rfl (does_iaddr (j := i) (by rw [e1]; rfl) rfl hi ?_)
  refine ops_cons rfl (does_val rfl ?_)
  refine ops_cons rfl (does_load (v := vcd) rfl gB (acells_at (j := 5) p rfl) ?_)
  refine ops_cons rfl (does_val (v := .int .i64 (((fnOf m i).code.length : Nat) : Int)) (by rw [ex]; rfl) ?_)
  by_cases hal : a < (fnOf m i).code.length
  case pos =>
    refine ops_cons rfl (does_val (v := .bool true) (by show some (Value.bool (decide _), _) = _; simp; omega) (ops_nil ⟨mT v l i n (.bool false) n5 s (.int .i64 (a : Nat)) y8 y9 y10 y11 y12 y13 (.bool true) y15, rfl, ?_⟩))
    refine seq_cond true rfl (seq_skip ?_)
    have r3' : RowS H1 vcd (cellsC (fnOf m i).code) := by
      rcases r3 with hh | ⟨b3, o3, c3, k3, w3, l3, h1, h2, h3⟩
      · exact .inl hh
      · exact .inr ⟨b3, o3, c3, k3, w3, l3, h1, (o1 b3 (by have := Vec.get_lt _ _ _ h2; omega)).trans h2, h3⟩
    obtain ⟨b6, o6, c6, kk6, w6, l6, e6, ga6, p6, s6'⟩ := atC r3' hal
    have hfg : FnGood mt i := good.2.2 i (by rw [hfns]; exact hi)
    have hfo : fnOf mt i = fnOf m i := by unfold fnOf; rw [hfns]
    have hA := (hfg.2 a (by rw [hfo]; exact hal))
    rw [errAt_zero, instr_zero] at hA
    have hia : insAt mt i a = (fnOf m i).code[a] := by simp [insAt, hfo, List.getD, hal]
    rw [hia] at hA
    have hsuc := nopN_succ hal
    generalize (fnOf m i).code[a] = x at p6 hA hsuc
    obtain ⟨op, A⟩ := x
    simp only at p6 hA hsuc
    refine seq_block ?_
    refine seq_region ?_
    refine ops_cons rfl (does_val rfl ?_)
    refine ops_cons rfl (does_load (v := .slice af m.fns.length cf) rfl gA rfl ?_)
    refine ops_cons rfl (does_iaddr (j := i) (by rw [e1]; rfl) rfl hi ?_)
    refine ops_cons rfl (does_val rfl ?_)
    refine ops_cons rfl (does_load (v := vcd) rfl gB (acells_at (j := 5) p rfl) ?_)
    refine ops_cons rfl (does_iaddr (j := a) (by rw [e6]; rfl) rfl hal ?_)
    refine ops_cons rfl (does_load (v := .agg #[.int .i64 op, .int .i64 A]) rfl ga6 (acells_some p6 s6') ?_)
    obtain ⟨n8, hn8⟩ : ∃ n8, Vec.size H1 = n8 := ⟨_, rfl⟩
    refine ops_cons rfl (does_alloc hn8 fun H4 z4 (k4 : Keeps H1 H4) g4 => ?_)
    refine ops_cons rfl (does_store rfl rfl rfl rfl rfl g4 (Nat.zero_le _) (show 2 ≤ 2 by omega) (ops_nil ⟨mT v l i n (.bool false) n5 s (.int .i64 (a : Nat)) (.pointer (some ⟨n8, 0, none⟩)) y9 y10 y11 y12 y13 (.bool true) y15, rfl, ?_⟩))
    obtain ⟨H5, hH5⟩ : ∃ H5, Vec.set H4 n8 (.arr [.int .i64 op, .int .i64 A] true 0) = H5 := ⟨_, rfl⟩
    have g5 : Vec.get H5 n8 = some (.arr [.int .i64 op, .int .i64 A] true 0) := by rw [← hH5]; exact get_set_same (by omega)
    have k5 : Keeps H1 H5 := by rw [← hH5]; exact k4.set _ (by omega)
    have z5 : Vec.size H5 = n8 + 1 := by rw [← hH5, Vec.size_set]; exact z4
    show ARuns E (.code false _ _ (Vec.set H4 n8 (.arr [.int .i64 op, .int .i64 A] true 0)) []) _
    rw [hH5]
    clear hH5
    refine seq_cut (fun T' H' => (∃ y, T' = mT v l i n (.bool false) n5 s (.int .i64 (a : Nat)) (.pointer (some ⟨n8, 0, none⟩)) y9 y10 y11 y12 y13 (.bool true) y) ∧ Vec.get H' n8 = some (.arr [.int .i64 op, .int .i64 (shI (op, A)).2] true 0) ∧ (∀ j, j < n8 → Vec.get H' j = Vec.get H1 j) ∧ Vec.size H' = n8 + 1) ?_ ?_
    · refine seq_region ?_
      refine ops_cons rfl (does_val rfl ?_)
      refine ops_cons rfl (does_load (v := .int .i64 op) rfl g5 rfl ?_)
      by_cases h43 : op = 43 ∨ op = 44
      · have hR : roomSpec mt i op = ((fnOf m i).code.length : Int) := by rcases h43 with rfl | rfl <;> simp [roomSpec, hfo]
        have hb := hA.1.2.2
        rw [hR] at hb
        have sh : (shI (op, A)).2 = A + 1 := by simp only [shI]; rw [if_pos h43]
        rw [sh]
        have fin : ∀ {y15 : Value}, ARuns E (.code false (.region [⟨.faddr 1 (.tmp 8), none, 0⟩, ⟨.load none (.loc 0), none, 0⟩, ⟨.bin .add (.loc 0) (.const (.int .i64 1)), none, 0⟩, ⟨.faddr 1 (.tmp 8), none, 0⟩, ⟨.store 1 (.loc 0) (.loc 1), none, 0⟩] []) (mT v l i n (.bool false) n5 s (.int .i64 (a : Nat)) (.pointer (some ⟨n8, 0, none⟩)) y9 y10 y11 y12 y13 (.bool true) y15) H5 []) fun r => r.e = .norm ∧ r.ds = [] ∧ (∃ y, r.T = mT v l i n (.bool false) n5 s (.int .i64 (a : Nat)) (.pointer (some ⟨n8, 0, none⟩)) y9 y10 y11 y12 y13 (.bool true) y) ∧ Vec.get r.H n8 = some (.arr [.int .i64 op, .int .i64 (A + 1)] true 0) ∧ (∀ j, j < n8 → Vec.get r.H j = Vec.get H1 j) ∧ Vec.size r.H = n8 + 1 := by
          intro y15
          refine runs_region ?_
          refine ops_cons rfl (does_val rfl ?_)
          refine ops_cons rfl (does_load (v := .int .i64 A) rfl g5 rfl ?_)
          refine ops_cons rfl (does_val (v := .int .i64 (A + 1)) (by show some (Value.int .i64 (aw .i64 (A + 1)), _) = _; rw [aw64 (by omega) (by omega)]) ?_)
          refine ops_cons rfl (does_val rfl ?_)
          refine ops_cons rfl (does_store rfl rfl rfl rfl rfl g5 (Nat.zero_le _) (show 1 + 1 ≤ 2 by omega) (ops_nil ⟨_, rfl, rfl, rfl, ⟨_, rfl⟩, ?_, fun j hj => ?_, ?_⟩))
          · exact get_set_same (show n8 < Vec.size H5 by omega)
          · show Vec.get (Vec.set H5 n8 _) j = _
            rw [get_set_ne (show n8 ≠ j by omega)]; exact k5.get j (by omega)
          · show Vec.size (Vec.set H5 n8 _) = _
            rw [Vec.size_set]; exact z5
        by_cases h1 : op = 43
        · refine ops_cons rfl (does_val (v := .bool true) (by show some (Value.bool (op == _), _) = _; simp [h1]) ?_)
          refine ops_not rfl (ops_not rfl (ops_not rfl ?_))
          refine ops_cons rfl (does_val (v := .bool true) rfl (ops_nil ⟨mT v l i n (.bool false) n5 s (.int .i64 (a : Nat)) (.pointer (some ⟨n8, 0, none⟩)) y9 y10 y11 y12 y13 (.bool true) (.bool true), rfl, ?_⟩))
          exact runs_cond true rfl fin
        · have h2 : op = 44 := by omega
          refine ops_cons rfl (does_val (v := .bool false) (by show some (Value.bool (op == _), _) = _; simp [h1]) ?_)
          refine ops_cons rfl (does_val rfl ?_)
          refine ops_cons rfl (does_load (v := .int .i64 op) rfl g5 rfl ?_)
          refine ops_cons rfl (does_val (v := .bool true) (by show some (Value.bool (op == _), _) = _; simp [h2]) ?_)
          refine ops_cons rfl (does_val (v := .bool true) rfl (ops_nil ⟨mT v l i n (.bool false) n5 s (.int .i64 (a : Nat)) (.pointer (some ⟨n8, 0, none⟩)) y9 y10 y11 y12 y13 (.bool true) (.bool true), rfl, ?_⟩))
          exact runs_cond true rfl fin
      · have sh : (shI (op, A)).2 = A := by simp only [shI]; rw [if_neg h43]
        rw [sh]
        refine ops_cons rfl (does_val (v := .bool false) (by show some (Value.bool (op == _), _) = _; simp; omega) ?_)
        refine ops_cons rfl (does_val rfl ?_)
        refine ops_cons rfl (does_load (v := .int .i64 op) rfl g5 rfl ?_)
        refine ops_cons rfl (does_val (v := .bool false) (by show some (Value.bool (op == _), _) = _; simp; omega) ?_)
        refine ops_cons rfl (does_val (v := .bool false) rfl (ops_nil ⟨mT v l i n (.bool false) n5 s (.int .i64 (a : Nat)) (.pointer (some ⟨n8, 0, none⟩)) y9 y10 y11 y12 y13 (.bool true) (.bool false), rfl, ?_⟩))
        refine runs_cond false rfl (runs_skip ⟨rfl, rfl, ⟨_, rfl⟩, g5, fun j hj => k5.get j (by omega), z5⟩)
    · rintro T' H6 ⟨⟨y15', rfl⟩, g6, o6', z6⟩
      generalize (shI (op, A)).2 = A' at g6 hsuc
      have acc6 := acc.keep (H' := H6) fun j _ hj => o6' j (by omega)
      refine runs_region ?_
      refine ops_cons rfl (does_load (v := .agg #[.int .i64 op, .int .i64 A']) rfl g6 rfl ?_)
      refine ops_cons rfl (does_op (.slice (some ⟨Vec.size H6, 0, none⟩) 1 3) (anew H6 [.int .i64 op, .int .i64 A']) rfl ?_)
      refine ops_cons rfl (does_append_accM (sz := 2) (base := z) (new := [.int .i64 op, .int .i64 A']) rfl (acc6.keep fun j _ hj => get_anew_lt hj) rfl rfl rfl (by simp only [asrc, arow, get_anew_same]; rfl) rfl (by rw [nopN_len (by omega), hro]; omega) (fun v' H' a' o' s' => ?_) (by rw [size_anew]; omega))
      rw [size_anew] at s'
      refine ops_nil ⟨mT v l i n (.bool false) n5 v' (.int .i64 (a : Nat)) (.pointer (some ⟨n8, 0, none⟩)) y9 y10 y11 y12 y13 (.bool true) y15', rfl, ?_⟩
      show ARuns E _ _
      refine runs_region (ops_cons rfl (does_inc rfl rfl (by omega) (ops_nil ⟨_, rfl, ?_⟩)))
      refine ⟨(fnOf m i).code.length - (a + 1), by omega, a + 1, _, _, _, _, _, _, _, _, _, rfl, by omega, rfl, by rw [hsuc]; exact a', fun j hj => ?_, by show z ≤ Vec.size H'; omega, rfl⟩
      rw [o' j hj, get_anew_lt (by omega), o6' j (by omega)]
      exact o1 j hj
  refine ops_cons rfl (does_val (v := .bool false) (by show some (Value.bool (decide _), _) = _; simp; omega) (ops_nil ⟨mT v l i n (.bool false) n5 s (.int .i64 (a : Nat)) y8 y9 y10 y11 y12 y13 (.bool false) y15, rfl, ?_⟩))
  refine seq_cond false rfl (seq_exit ?_)
  show ARuns E _ _
  have hae : a = (fnOf m i).code.length := by omega
  subst hae
  rw [nopN_end] at acc
  have n5l := Vec.get_lt _ _ _ gt
  have gt1 : Vec.get H1 n5 = _ := (o1 n5 (by omega)).trans gt
  have gf1 : Vec.get H1 bf = _ := (o1 bf (by omega)).trans gf
  have hie : i < es.length := by omega
  have hsz : Sized 6 es := (show FnsAt H es m.fns from ⟨hes, fun j h1 h2 => (each j h1 h2).fn⟩).sized
  have hflen : (es ++ [markF]).flatten.length = (m.fns.length + 1) * 6 := by
    have := hsz.flat
    rw [List.flatten_append, List.length_append, this, hes]; simp [markF]; omega
  refine seq_region ?_
  refine ops_cons rfl (does_val rfl ?_)
  refine ops_cons rfl (does_load (v := lentV' bf m.fns.length) rfl gt1 rfl ?_)
  refine ops_cons rfl (does_iaddr (j := i) rfl rfl hi ?_)
  refine ops_cons rfl (does_val rfl ?_)
  have accb := acc
  obtain ⟨_, b9, ce9, hb9, hs9, _, _, hg9⟩ := accb
  refine ops_cons rfl (does_store (v := s) (vs := [s]) (cs := (es ++ [markF]).flatten) rfl rfl (by rw [hs9]; rfl) rfl (by rw [hs9]; rfl) gf1 (Nat.zero_le _) (by rw [hflen]; simp; omega) (ops_nil ⟨mT v l i n (.bool false) n5 s (.int .i64 ((fnOf m i).code.length : Nat)) y8 y9 y10 y11 y12 y13 (.bool false) y15, rfl, ?_⟩))
  have hset : splice (es ++ [markF]).flatten (0 + i * 6 + 5) [s] = ((es.set i (es[i].set 5 s)) ++ [markF]).flatten := by
    show (es ++ [markF]).flatten.set (0 + i * 6 + 5) s = _
    rw [Nat.zero_add, List.flatten_append, List.set_append_left _ _ (by rw [hsz.flat]; omega), set_flatten hsz hie (by omega), List.flatten_append]
  obtain ⟨H9, hH9⟩ : ∃ H9, Vec.set H1 bf (.arr ((es.set i (es[i].set 5 s)) ++ [markF]).flatten true 0) = H9 := ⟨_, rfl⟩
  show ARuns E (.code false _ _ (Vec.set H1 bf (.arr (splice (es ++ [markF]).flatten (0 + i * 6 + 5) [s]) true 0)) []) _
  rw [hset, hH9]
  have g9 : Vec.get H9 bf = some (.arr ((es.set i (es[i].set 5 s)) ++ [markF]).flatten true 0) := by rw [← hH9]; exact get_set_same (by omega)
  have o9 : ∀ j, j ≠ bf → Vec.get H9 j = Vec.get H1 j := fun j hj => by rw [← hH9]; exact get_set_ne (Ne.symm hj)
  clear hH9
  have o9' : ∀ j, j < Vec.size H → j ≠ bf → Vec.get H9 j = Vec.get H j := fun j hj hn => (o9 j hn).trans (o1 j (by omega))
  obtain ⟨q1', q2', q3'⟩ := rows H9 o9'
  have acc9 : RowS H9 s (cellsC (nopL (fnOf m i).code)) := (acc.keep (H' := H9) fun j h1 h2 => o9 j (by omega)).row
  have fn9 : FnsAt H9 (es.set i (es[i].set 5 s)) (nopM mt i).fns := by
    have hfo : fnOf mt i = fnOf m i := by unfold fnOf; rw [hfns]
    refine ⟨by simp [nopM, hfns, hes], fun j h1 h2 => ?_⟩
    have hj : j < es.length := by simpa using h1
    have hj' : j < m.fns.length := by omega
    have hL := (each j hj hj').apart gf o9'
    simp only [nopM, List.getElem_set]
    by_cases hji : i = j
    · subst hji
      rw [if_pos rfl, if_pos rfl, hfo]
      obtain ⟨b1, b2, b3, e3, t1, t2, t3, _⟩ := hL
      rw [e3, ← fnOf_at hi]
      refine ⟨_, _, s, rfl, ?_, ?_, ?_⟩
      · rw [← fnOf_at hi] at t1
        exact lent_row t1
      · rw [← fnOf_at hi] at t2
        exact lent_row t2
      · exact acc9
    · rw [if_neg hji, if_neg hji]
      have : mt.fns[j]'(by rw [hfns]; exact hj') = m.fns[j] := by simp [hfns]
      rw [this]
      exact hL.fn
  have hlen9 : (es.set i (es[i].set 5 s)).length = m.fns.length := by simp [hes]
  have hmd : MdAt H9 (.agg #[vg, va, vc, lentV' bf m.fns.length]) (nopM mt i) := by
    refine ⟨vg, va, vc, _, rfl, q1', q2', q3', _, .inr ⟨bf, 0, _, _, _, _, by rw [hlen9]; rfl, g9, by simp, ?_⟩, fn9⟩
    rw [List.drop_zero, List.flatten_append, List.take_append_of_le_length (Nat.le_refl _), List.take_length]
  have him : i < mt.fns.length := by rw [hfns]; exact hi
  have hcm : (fnOf mt i).code.length < 2048 := by unfold fnOf; rw [hfns]; exact hc
  have gt9 : Vec.get H9 n5 = _ := (o9 n5 hne).trans gt1
  refine seq_region ?_
  refine ops_cons rfl (does_load (v := .agg #[vg, va, vc, lentV' bf m.fns.length]) rfl gt9 rfl ?_)
  refine ops_cons rfl (does_call rfl rfl ((scheck_ok hmd (fits_nop fits him hcm)).mono ?_))
  rintro ⟨e4, T4, H4, ds4, v4⟩ ⟨x1, x2, x3, rfl, hck, k4⟩
  obtain ⟨rfl, rfl, rfl⟩ := good_zero (good_nop good him hcm) hck
  refine ops_cons rfl (does_val (v := .agg #[.int .i64 0, .int .i64 0, .int .i64 0]) rfl ?_)
  refine ops_cons rfl (does_flat rfl (fault_eq 0 0 0 _ _) (ops_nil ⟨mT v l i n (.bool true) n5 s (.int .i64 ((fnOf m i).code.length : Nat)) y8 y9 y10 y11 y12 y13 (.bool false) y15, rfl, ?_⟩))
  exact runs_ret (hQ _ _ _ _ _ _ _ _ _ _ _)
end Go.Proofs.Ytnngilpiajgobaa.Shape
