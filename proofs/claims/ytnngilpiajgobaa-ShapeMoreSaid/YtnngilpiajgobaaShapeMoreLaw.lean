/- The shape laws: the law on more. -/
import Derived.Test.YtnngilpiajgobaaShapeMoreB
set_option linter.unusedVariables false
set_option linter.unusedSimpArgs false
set_option maxRecDepth 10000
namespace Go.Proofs.Ytnngilpiajgobaa.Shape
open Go.Proofs.Ytnngilpiajgobaa.AM
theorem cellsU_app (l : List Int) (x : Int) : cellsU (l ++ [x]) = cellsU l ++ [.int .u64 x] := by simp [cellsU]
theorem cellsA_app (l : List (Int × Int)) (x : Int × Int) : cellsA (l ++ [x]) = cellsA l ++ [[.int .i64 x.1, .int .u64 x.2]] := by simp [cellsA]
theorem three_sets {H : AH TV} {b n5 : Nat} {cs : List Value} {B C : Blk} (hb : b < Vec.size H) (hn : n5 < Vec.size H) (hne : b ≠ n5) : Vec.get (Vec.set (Vec.set (anew H cs) b B) n5 C) n5 = some C ∧ Vec.get (Vec.set (Vec.set (anew H cs) b B) n5 C) b = some B ∧
    (∀ j, j < Vec.size H → j ≠ n5 → j ≠ b → Vec.get (Vec.set (Vec.set (anew H cs) b B) n5 C) j = Vec.get H j) ∧ Vec.size (Vec.set (Vec.set (anew H cs) b B) n5 C) = Vec.size H + 1 := by
  refine ⟨get_set_same (by rw [Vec.size_set, size_anew]; omega), ?_, fun j hj h1 h2 => ?_, by rw [Vec.size_set, Vec.size_set, size_anew]⟩
  · rw [get_set_ne (Ne.symm hne)]; exact get_set_same (by rw [size_anew]; omega)
  · rw [get_set_ne (Ne.symm h1), get_set_ne (Ne.symm h2), get_anew_lt hj]
/-- One more label behind a row of them. -/
theorem app_label {v : Value} {l f : Int} {n n5 b k fld : Nat} {r x6 x7 x8 x9 x10 x11 x12 x13 x14 x15 : Value} {H : AH TV} {row cells : List Value} {K : List Value → AH TV → Prop} (g5 : Vec.get H n5 = some (.arr cells true 0)) (hc : cells[fld]? = some (.slice (some ⟨b, 0, none⟩) k (2 * (k + 1)))) (gb : Vec.get H b = some (.arr (row ++ [.int .u64 7171]) true 0)) (hk : row.length = k) (hr : (k + 1) * 8 ≤ room) (hne : b ≠ n5) (hfld : fld = 0 ∨ fld = 1 ∨ fld = 2)
    (hK : ∀ L H', Vec.get H' n5 = some (.arr (cells.set fld (.slice (some ⟨b, 0, none⟩) (k + 1) (2 * (k + 1)))) true 0) → Vec.get H' b = some (.arr (row ++ [.int .u64 l]) true 0) → (∀ j, j < Vec.size H → j ≠ n5 → j ≠ b → Vec.get H' j = Vec.get H j) → Vec.size H' = Vec.size H + 1 → K L H') :
    AOps E (mT v l f n r n5 x6 x7 x8 x9 x10 x11 x12 x13 x14 x15) [⟨.faddr fld (.tmp 5), none, 0⟩, ⟨.load none (.loc 0), none, 0⟩, ⟨.mkarr 1 [(.int .u64 0)] [(0, 1, (.tmp 1))], none, 0⟩, ⟨.append false 1 8 (.loc 1) (.loc 0), none, 0⟩, ⟨.faddr fld (.tmp 5), none, 0⟩, ⟨.store 1 (.loc 0) (.loc 1), none, 0⟩] [] H K := by
  have bl := Vec.get_lt _ _ _ gb
  have nl := Vec.get_lt _ _ _ g5
  have fl := (List.getElem?_eq_some_iff.1 hc).1
  have hfa : ∀ (L : List Value) (H' : AH TV), aexec E.P (fun _ _ _ => none) (.faddr fld (.tmp 5)) (sev (mT v l f n r n5 x6 x7 x8 x9 x10 x11 x12 x13 x14 x15) L) H' = some (.pointer (some ⟨n5, fld, none⟩), H') := by
    intro L H'; rcases hfld with rfl | rfl | rfl <;> rfl
  refine ops_cons rfl (does_val (hfa _ _) ?_)
  refine ops_cons rfl (does_load (v := .slice (some ⟨b, 0, none⟩) k (2 * (k + 1))) rfl g5 hc ?_)
  refine ops_cons rfl (does_op (.slice (some ⟨Vec.size H, 0, none⟩) 1 3) (anew H [.int .u64 l]) rfl ?_)
  refine ops_cons rfl (does_append_fit (n := k) (b := b) (cs := row ++ [.int .u64 7171]) (new := [.int .u64 l]) rfl rfl rfl (by simp only [asrc, arow, get_anew_same]; rfl) rfl hr ((get_anew_lt bl).trans gb) (by simp [hk]) ?_)
  have hsp : splice (row ++ [.int .u64 7171]) (k * 1) [.int .u64 l] = row ++ [.int .u64 l] := by
    rw [Nat.mul_one, ← hk]; exact splice_end _ _ _ rfl
  rw [hsp]
  refine ops_cons rfl (does_val (hfa _ _) ?_)
  obtain ⟨t1, t2, t3, t4⟩ := three_sets (H := H) (cs := [.int .u64 l]) (B := .arr (row ++ [.int .u64 l]) true 0) (C := .arr (cells.set fld (.slice (some ⟨b, 0, none⟩) (k + 1) (2 * (k + 1)))) true 0) bl nl hne
  refine ops_cons rfl (does_store (vs := [.slice (some ⟨b, 0, none⟩) (k + 1) (2 * (k + 1))]) (cs := cells) rfl rfl rfl rfl rfl (by rw [get_set_ne hne, get_anew_lt nl]; exact g5) (Nat.zero_le _) (by simp; omega) (ops_nil ?_))
  exact hK _ _ t1 t2 t3 t4
/-- One more array behind a row of them. -/
theorem app_array {v : Value} {l f : Int} {n n5 b k fld : Nat} {r x6 x7 x8 x9 x10 x11 x12 x13 x14 x15 : Value} {H : AH TV} {row : List Value} {cells : List Value} {K : List Value → AH TV → Prop} (g5 : Vec.get H n5 = some (.arr cells true 0)) (hc : cells[fld]? = some (.slice (some ⟨b, 0, none⟩) k (2 * (k + 1)))) (gb : Vec.get H b = some (.arr (row ++ markA) true 0)) (hk : row.length = k * 2) (hr : (k + 1) * 16 ≤ room) (hne : b ≠ n5) (hfld : fld = 0 ∨ fld = 1 ∨ fld = 2)
    (hK : ∀ L H', Vec.get H' n5 = some (.arr (cells.set fld (.slice (some ⟨b, 0, none⟩) (k + 1) (2 * (k + 1)))) true 0) → Vec.get H' b = some (.arr (row ++ [.int .i64 1, .int .u64 l]) true 0) → (∀ j, j < Vec.size H → j ≠ n5 → j ≠ b → Vec.get H' j = Vec.get H j) → Vec.size H' = Vec.size H + 1 → K L H') :
    AOps E (mT v l f n r n5 x6 x7 x8 x9 x10 x11 x12 x13 x14 x15) [⟨.faddr fld (.tmp 5), none, 0⟩, ⟨.load none (.loc 0), none, 0⟩, ⟨.build [(.int .i64 0), (.int .u64 0)] [(0, 1, (.const (.int .i64 1))), (1, 1, (.tmp 1))], none, 0⟩, ⟨.mkarr 1 [(.int .i64 0), (.int .u64 0)] [(0, 2, (.loc 0))], none, 0⟩, ⟨.append false 2 16 (.loc 2) (.loc 0), none, 0⟩, ⟨.faddr fld (.tmp 5), none, 0⟩, ⟨.store 1 (.loc 0) (.loc 1), none, 0⟩] [] H K := by
  have bl := Vec.get_lt _ _ _ gb
  have nl := Vec.get_lt _ _ _ g5
  have fl := (List.getElem?_eq_some_iff.1 hc).1
  have hfa : ∀ (L : List Value) (H' : AH TV), aexec E.P (fun _ _ _ => none) (.faddr fld (.tmp 5)) (sev (mT v l f n r n5 x6 x7 x8 x9 x10 x11 x12 x13 x14 x15) L) H' = some (.pointer (some ⟨n5, fld, none⟩), H') := by
    intro L H'; rcases hfld with rfl | rfl | rfl <;> rfl
  refine ops_cons rfl (does_val (hfa _ _) ?_)
  refine ops_cons rfl (does_load (v := .slice (some ⟨b, 0, none⟩) k (2 * (k + 1))) rfl g5 hc ?_)
  refine ops_cons rfl (does_val (v := .agg #[.int .i64 1, .int .u64 l]) rfl ?_)
  refine ops_cons rfl (does_op (.slice (some ⟨Vec.size H, 0, none⟩) 1 3) (anew H [.int .i64 1, .int .u64 l]) rfl ?_)
  refine ops_cons rfl (does_append_fit (n := k) (b := b) (cs := row ++ markA) (new := [.int .i64 1, .int .u64 l]) rfl rfl rfl (by simp only [asrc, arow, get_anew_same]; rfl) rfl hr ((get_anew_lt bl).trans gb) (by simp [hk, markA]) ?_)
  have hsp : splice (row ++ markA) (k * 2) [.int .i64 1, .int .u64 l] = row ++ [.int .i64 1, .int .u64 l] := by
    rw [← hk]; exact splice_end _ _ _ rfl
  rw [hsp]
  refine ops_cons rfl (does_val (hfa _ _) ?_)
  obtain ⟨t1, t2, t3, t4⟩ := three_sets (H := H) (cs := [.int .i64 1, .int .u64 l]) (B := .arr (row ++ [.int .i64 1, .int .u64 l]) true 0) (C := .arr (cells.set fld (.slice (some ⟨b, 0, none⟩) (k + 1) (2 * (k + 1)))) true 0) bl nl hne
  refine ops_cons rfl (does_store (vs := [.slice (some ⟨b, 0, none⟩) (k + 1) (2 * (k + 1))]) (cs := cells) rfl rfl rfl rfl rfl (by rw [get_set_ne hne, get_anew_lt nl]; exact g5) (Nat.zero_le _) (by simp; omega) (ops_nil ?_))
  exact hK _ _ t1 t2 t3 t4
theorem lentA_ne {H : AH TV} {b : Nat} {l : List Int} {es : List (List Value)} (h : Lent H b l) (h2 : Vec.get H b = some (.arr (es ++ [markA]).flatten true 0)) : False := by
  unfold Lent at h
  rw [h] at h2
  simp only [Option.some.injEq, Blk.arr.injEq, and_true] at h2
  have : Value.int .i64 (-71) ∈ cellsU l ++ [.int .u64 7171] := by rw [h2]; simp [markA]
  simp [cellsU] at this
theorem lentAC_ne {H : AH TV} {b : Nat} {l : List (Int × Int)} {es : List (List Value)} (h : LentC H b l) (h2 : Vec.get H b = some (.arr (es ++ [markA]).flatten true 0)) : False := by
  unfold LentC at h
  rw [h] at h2
  simp only [Option.some.injEq, Blk.arr.injEq, and_true] at h2
  have : Value.int .u64 0 ∈ (cellsC l ++ [markC]).flatten := by rw [h2]; simp [markA]
  simp [cellsC, markC] at this
  obtain ⟨a, ⟨x, y, h1, rfl⟩, h3⟩ := this
  simp at h3
theorem fnCells_inj {f : Fn} {b1 b2 b3 c1 c2 c3 : Nat} (h : fnCells f (lentV b1 f.ps) (lentV b2 f.rs) (lentV' b3 f.code.length) = fnCells f (lentV c1 f.ps) (lentV c2 f.rs) (lentV' c3 f.code.length)) : b1 = c1 ∧ b2 = c2 ∧ b3 = c3 := by
  simpa [fnCells, lentV, lentV'] using h
set_option maxHeartbeats 4000000 in
theorem more_ok {v : Value} {H : AH TV} {m : Md} {l f : Int} (h : MdAt H v m) (hf : MdFits m) : ARuns E (.call 7 [v, .int .u64 l, .int .i64 f] H) fun r => r.v = .bool true := by
  have hro : room = 140737488355328 := rfl
  have hm := h
  obtain ⟨vg, va, vc, vf, rfl, h1, h2, h3, h4⟩ := h
  obtain ⟨ag, cg, rfl⟩ := lenU h1
  obtain ⟨aa, ca, rfl⟩ := lenSA h2
  obtain ⟨ac, cc, rfl⟩ := lenU h3
  obtain ⟨af, cf, rfl⟩ := h4.len
  obtain ⟨n, hn⟩ : ∃ n, Vec.size H = n := ⟨_, rfl⟩
  obtain ⟨v, hv⟩ : ∃ v, Value.agg #[.slice ag m.gs.length cg, .slice aa m.arrays.length ca, .slice ac m.chans.length cc, .slice af m.fns.length cf] = v := ⟨_, rfl⟩
  rw [hv] at hm ⊢
  refine runs_call rfl rfl ?_
  refine seq_region ?_
  refine ops_cons rfl (does_box (cs := [.slice ag m.gs.length cg, .slice aa m.arrays.length ca, .slice ac m.chans.length cc, .slice af m.fns.length cf]) (by rw [← hv]; rfl) rfl hn fun H1 z1 k1 g1 => ops_nil ⟨[v, .int .u64 l, .int .i64 f, .pointer (some ⟨n, 0, none⟩), .bool false, undef, undef, undef, undef, undef, undef, undef, undef, undef, undef, undef], rfl, ?_⟩)
  refine seq_assoc (seq_region ?_)
  refine ops_cons rfl (does_call rfl rfl (runs_ext (H' := H1) (v := .bool true) rfl ?_))
  refine ops_cons rfl (does_val (v := .bool false) rfl (ops_nil ⟨[v, .int .u64 l, .int .i64 f, .pointer (some ⟨n, 0, none⟩), .bool false, undef, undef, undef, undef, .bool false, undef, undef, undef, undef, undef, undef], rfl, ?_⟩))
  refine seq_cond false rfl (seq_skip ?_)
  refine seq_assoc (seq_region ?_)
  refine ops_cons rfl (does_load (v := v) rfl g1 (by rw [← hv]; rfl) ?_)
  refine ops_cons rfl (does_call rfl rfl ((lentModule_ok (hm.ext k1) hf).mono ?_))
  rintro ⟨e3, T3, H3, ds3, v3⟩ ⟨bg, ba, bc, bf, es, lm, k3⟩
  simp only at lm k3
  refine ops_cons rfl (does_call rfl rfl ((scheck_ok lm.md hf).mono ?_))
  rintro ⟨e4, T4, H4, ds4, v4⟩ ⟨x1, x2, x3, rfl, hc, k4⟩
  simp only at k4
  refine ops_cons rfl (does_val (v := .agg #[.int .i64 0, .int .i64 0, .int .i64 0]) rfl ?_)
  refine ops_cons rfl (does_flat rfl (fault_neq x1 x2 x3 0 0 0 _ _) ?_)
  by_cases hz : x1 = 0 ∧ x2 = 0 ∧ x3 = 0
  case neg =>
    rw [decide_eq_true hz]
    refine ops_nil ⟨_, rfl, ?_⟩
    refine seq_cond true rfl ?_
    refine seq_assoc (seq_region (ops_nil ⟨_, rfl, ?_⟩))
    exact seq_ret ⟨.inr rfl, _, _, rfl, rfl, rfl⟩
  rw [decide_eq_false (fun hh => hh hz)]
  refine ops_nil ⟨[v, .int .u64 l, .int .i64 f, .pointer (some ⟨n, 0, none⟩), .bool false, undef, undef, undef, undef, .bool false, .bool false, undef, undef, undef, undef, undef], rfl, ?_⟩
  refine seq_cond false rfl (seq_skip ?_)
  obtain ⟨rfl, rfl, rfl⟩ := hz
  have good := good_of hc
  have k14 := k3.trans k4
  have k04 := k1.trans k14
  have g4 := k14.some g1
  have hm4 := hm.ext k04
  clear lm hc k3 k4 k14
  refine seq_region ?_
  refine ops_cons rfl (does_load (v := v) rfl g4 (by rw [← hv]; rfl) ?_)
  refine ops_cons rfl (does_call rfl rfl ((lentModule_new hm4 hf).mono ?_))
  rintro ⟨e5, T5, H5, ds5, v5⟩ ⟨bg, ba, bc, bf, es, lm, k5, ⟨o1, o2, o3, o4⟩, low⟩
  simp only at lm k5
  obtain rfl := lm.val
  obtain ⟨n5, hn5⟩ : ∃ n5, Vec.size H5 = n5 := ⟨_, rfl⟩
  have lbc := Vec.get_lt _ _ _ lm.chans
  refine ops_cons rfl (does_alloc hn5 fun H6 z6 (k6 : Keeps H5 H6) g6 => ?_)
  refine ops_cons rfl (does_store rfl rfl rfl rfl rfl g6 (Nat.zero_le _) (show 4 ≤ 4 by omega) (ops_nil ⟨mT v l f n (.bool false) n5 undef undef undef (.bool false) (.bool false) undef undef undef undef undef, rfl, ?_⟩))
  obtain ⟨H7, hH7⟩ : ∃ H7, Vec.set H6 n5 (.arr [lentV bg m.gs, lentV' ba m.arrays.length, lentV bc m.chans, lentV' bf m.fns.length] true 0) = H7 := ⟨_, rfl⟩
  have g7 : Vec.get H7 n5 = some (.arr [lentV bg m.gs, lentV' ba m.arrays.length, lentV bc m.chans, lentV' bf m.fns.length] true 0) := by rw [← hH7]; exact get_set_same (by omega)
  have k57 : Keeps H5 H7 := by rw [← hH7]; exact k6.set _ (by omega)
  have z7 : Vec.size H7 = n5 + 1 := by rw [← hH7, Vec.size_set]; exact z6
  show ARuns E (.code false _ _ (Vec.set H6 n5 (.arr [lentV bg m.gs, lentV' ba m.arrays.length, lentV bc m.chans, lentV' bf m.fns.length] true 0)) []) _
  rw [hH7]
  clear hH7 k6 g6 z6
  have lm7 := lm.ext k57
  have k47 := k5.trans k57
  have gn7 := k47.some g4
  have k07 := k04.trans k47
  have h47 := h4.ext k07
  have nl := Vec.get_lt _ _ _ g4
  have s4 := k5.size
  have rowsOf : ∀ (H' : AH TV), (∀ j, j < Vec.size H7 → j ≠ bf → Vec.get H' j = Vec.get H7 j) → RowOf H' (lentV bg m.gs) (cellsU m.gs) ∧ RowS H' (lentV' ba m.arrays.length) (cellsA m.arrays) ∧ RowOf H' (lentV bc m.chans) (cellsU m.chans) := fun H' o =>
    ⟨lent_row ((o bg (by omega) (by omega)).trans lm7.gs), .inr ⟨ba, 0, _, _, _, _, by rw [lenA]; rfl, (o ba (by omega) (by omega)).trans lm7.arrays, by simp, by simp [List.take_append_of_le_length]⟩, lent_row ((o bc (by omega) (by omega)).trans lm7.chans)⟩
  have z5f := k5.size
  have hgsl : (cellsU m.gs).length = m.gs.length := by simp [cellsU]
  have hcsl : (cellsU m.chans).length = m.chans.length := by simp [cellsU]
  refine seq_assoc (seq_region ?_)
  refine ops_cons rfl (does_val rfl ?_)
  refine ops_cons rfl (does_load (v := lentV bg m.gs) rfl g7 rfl ?_)
  refine ops_cons rfl (does_val rfl ?_)
  by_cases c1 : m.gs.length < 32
  case neg =>
    refine ops_cons rfl (does_val (v := .bool false) (by show some (Value.bool (decide _), _) = _; simp; omega) ?_)
    refine ops_not rfl (ops_not rfl (ops_not rfl (ops_not rfl ?_)))
    refine ops_cons rfl (does_val (v := .bool false) rfl ?_)
    refine ops_not rfl (ops_not rfl (ops_not rfl (ops_not rfl ?_)))
    refine ops_cons rfl (does_val (v := .bool false) rfl (ops_nil ⟨mT v l f n (.bool false) n5 undef undef undef (.bool false) (.bool false) (.bool false) undef undef undef undef, rfl, ?_⟩))
    refine seq_cond false rfl (seq_skip ?_)
    exact more_tail gn7 h47 hf g7 rowsOf lm7.fns lm7.len lm7.each rfl good hf (by omega) fun _ _ _ _ _ _ _ _ _ _ _ => ⟨.inr rfl, _, _, rfl, rfl, rfl⟩
  refine ops_cons rfl (does_val (v := .bool true) (by show some (Value.bool (decide _), _) = _; simp; omega) ?_)
  refine ops_cons rfl (does_val rfl ?_)
  refine ops_cons rfl (does_load (v := lentV' ba m.arrays.length) rfl g7 rfl ?_)
  refine ops_cons rfl (does_val rfl ?_)
  by_cases c2 : m.arrays.length < 16
  case neg =>
    refine ops_cons rfl (does_val (v := .bool false) (by show some (Value.bool (decide _), _) = _; simp; omega) ?_)
    refine ops_cons rfl (does_val (v := .bool false) rfl ?_)
    refine ops_not rfl (ops_not rfl (ops_not rfl (ops_not rfl ?_)))
    refine ops_cons rfl (does_val (v := .bool false) rfl (ops_nil ⟨mT v l f n (.bool false) n5 undef undef undef (.bool false) (.bool false) (.bool false) undef undef undef undef, rfl, ?_⟩))
    refine seq_cond false rfl (seq_skip ?_)
    exact more_tail gn7 h47 hf g7 rowsOf lm7.fns lm7.len lm7.each rfl good hf (by omega) fun _ _ _ _ _ _ _ _ _ _ _ => ⟨.inr rfl, _, _, rfl, rfl, rfl⟩
  refine ops_cons rfl (does_val (v := .bool true) (by show some (Value.bool (decide _), _) = _; simp; omega) ?_)
  refine ops_cons rfl (does_val (v := .bool true) rfl ?_)
  refine ops_cons rfl (does_val rfl ?_)
  refine ops_cons rfl (does_load (v := lentV bc m.chans) rfl g7 rfl ?_)
  refine ops_cons rfl (does_val rfl ?_)
  by_cases c3 : m.chans.length < 16
  case neg =>
    refine ops_cons rfl (does_val (v := .bool false) (by show some (Value.bool (decide _), _) = _; simp; omega) ?_)
    refine ops_cons rfl (does_val (v := .bool false) rfl (ops_nil ⟨mT v l f n (.bool false) n5 undef undef undef (.bool false) (.bool false) (.bool false) undef undef undef undef, rfl, ?_⟩))
    refine seq_cond false rfl (seq_skip ?_)
    exact more_tail gn7 h47 hf g7 rowsOf lm7.fns lm7.len lm7.each rfl good hf (by omega) fun _ _ _ _ _ _ _ _ _ _ _ => ⟨.inr rfl, _, _, rfl, rfl, rfl⟩
  refine ops_cons rfl (does_val (v := .bool true) (by show some (Value.bool (decide _), _) = _; simp; omega) ?_)
  refine ops_cons rfl (does_val (v := .bool true) rfl (ops_nil ⟨mT v l f n (.bool false) n5 undef undef undef (.bool false) (.bool false) (.bool true) undef undef undef undef, rfl, ?_⟩))
  refine seq_cond true rfl ?_
  refine seq_assoc (seq_region (app_label (b := bg) (k := m.gs.length) g7 rfl lm7.gs hgsl (by rw [hro]; omega) (by omega) (by decide) fun L8 H8 ga8 gb8 o8 z8 => ⟨_, rfl, ?_⟩))
  refine seq_assoc (seq_region (app_array (b := ba) (k := m.arrays.length) (row := (cellsA m.arrays).flatten) ga8 rfl (by rw [o8 ba (by omega) (by omega) (by omega), lm7.arrays]; simp) (by rw [(sizedA _).flat, lenA]) (by rw [hro]; omega) (by omega) (by decide) fun L9 H9 ga9 gb9 o9 z9 => ⟨_, rfl, ?_⟩))
  refine seq_assoc (seq_region (app_label (b := bc) (k := m.chans.length) ga9 rfl (by rw [o9 bc (by omega) (by omega) (by omega), o8 bc (by omega) (by omega) (by omega)]; exact lm7.chans) hcsl (by rw [hro]; omega) (by omega) (by decide) fun La Ha gaA gbA oA zA => ⟨_, rfl, ?_⟩))
  have gaA' : Vec.get Ha n5 = some (.arr [.slice (some ⟨bg, 0, none⟩) (m.gs.length + 1) (2 * (m.gs.length + 1)), .slice (some ⟨ba, 0, none⟩) (m.arrays.length + 1) (2 * (m.arrays.length + 1)), .slice (some ⟨bc, 0, none⟩) (m.chans.length + 1) (2 * (m.chans.length + 1)), lentV' bf m.fns.length] true 0) := gaA
  have fg : Vec.get Ha bg = some (.arr (cellsU (m.gs ++ [l])) true 0) := by rw [cellsU_app, oA bg (by omega) (by omega) (by omega), o9 bg (by omega) (by omega) (by omega)]; exact gb8
  have fa : Vec.get Ha ba = some (.arr (cellsA (m.arrays ++ [(1, l)])).flatten true 0) := by rw [cellsA_app, oA ba (by omega) (by omega) (by omega), List.flatten_append]; exact gb9
  have fc : Vec.get Ha bc = some (.arr (cellsU (m.chans ++ [l])) true 0) := by rw [cellsU_app]; exact gbA
  have oth : ∀ j, j < Vec.size H7 → j ≠ n5 → j ≠ bg → j ≠ ba → j ≠ bc → Vec.get Ha j = Vec.get H7 j := fun j h1 h2 h3 h4 h5 => by
    rw [oA j (by omega) h2 h5, o9 j (by omega) h2 h4, o8 j (by omega) h2 h3]
  have eachA : ∀ i (h : i < es.length) (h' : i < m.fns.length), LFn Ha none es[i] m.fns[i] := fun i h h' => by
    obtain ⟨b1, b2, b3, e, p1, p2, p3, _⟩ := lm.each i h h'
    obtain ⟨d1, d2, d3, e', q1, q2, q3⟩ := low i h h'
    obtain ⟨rfl, rfl, rfl⟩ := fnCells_inj (e.symm.trans e')
    have l1 := Vec.get_lt _ _ _ p1
    have l2 := Vec.get_lt _ _ _ p2
    have l3 := Vec.get_lt _ _ _ p3
    refine ⟨b1, b2, b3, e, ?_, ?_, ?_, by simp, by simp, by simp⟩
    · exact ((oth b1 (by omega) (by omega) (by omega) (fun e => by subst e; exact lentA_ne p1 lm.arrays) (by omega)).trans (k57.get b1 l1)).trans p1
    · exact ((oth b2 (by omega) (by omega) (by omega) (fun e => by subst e; exact lentA_ne p2 lm.arrays) (by omega)).trans (k57.get b2 l2)).trans p2
    · exact ((oth b3 (by omega) (by omega) (by omega) (fun e => by subst e; exact lentAC_ne p3 lm.arrays) (by omega)).trans (k57.get b3 l3)).trans p3
  have ffA : Vec.get Ha bf = some (.arr (es ++ [markF]).flatten true 0) := (oth bf (by omega) (by omega) (by omega) (by omega) (by omega)).trans lm7.fns
  have gnA : Vec.get Ha n = _ := (oth n (by omega) (by omega) (by omega) (by omega) (by omega)).trans gn7
  have zHa : Vec.size H7 ≤ Vec.size Ha := by omega
  have fl1 : (cellsU (m.gs ++ [l])).length = m.gs.length + 1 := by simp [cellsU]
  have fl2 : (cellsU (m.chans ++ [l])).length = m.chans.length + 1 := by simp [cellsU]
  have fl3 : (cellsA (m.arrays ++ [(1, l)])).length = m.arrays.length + 1 := by simp [cellsA]
  have rowsE : ∀ (H' : AH TV), (∀ j, j < Vec.size Ha → j ≠ bf → Vec.get H' j = Vec.get Ha j) → RowOf H' (.slice (some ⟨bg, 0, none⟩) (m.gs.length + 1) (2 * (m.gs.length + 1))) (cellsU (extM m l).gs) ∧ RowS H' (.slice (some ⟨ba, 0, none⟩) (m.arrays.length + 1) (2 * (m.arrays.length + 1))) (cellsA (extM m l).arrays) ∧ RowOf H' (.slice (some ⟨bc, 0, none⟩) (m.chans.length + 1) (2 * (m.chans.length + 1))) (cellsU (extM m l).chans) := fun H' o => by
    refine ⟨.inr ⟨bg, 0, _, _, _, _, by rw [← fl1]; rfl, (o bg (by omega) (by omega)).trans fg, ?_, ?_⟩, .inr ⟨ba, 0, _, _, _, _, by rw [← fl3]; rfl, (o ba (by omega) (by omega)).trans fa, ?_, ?_⟩, .inr ⟨bc, 0, _, _, _, _, by rw [← fl2]; rfl, (o bc (by omega) (by omega)).trans fc, ?_, ?_⟩⟩
    all_goals first | exact Nat.le_of_eq (Nat.zero_add _) | exact List.take_length
  have fnsA : Fns Ha (lentV' bf m.fns.length) m.fns := ⟨es, .inr ⟨bf, 0, _, _, _, _, by rw [← lm.len]; rfl, ffA, by simp, by rw [List.drop_zero, List.flatten_append, List.take_append_of_le_length (Nat.le_refl _), List.take_length]⟩, lm.len, fun i h1 h2 => (eachA i h1 h2).fn⟩
  obtain ⟨r1, r2, r3⟩ := rowsE Ha fun _ _ _ => rfl
  have mdA : MdAt Ha (.agg #[.slice (some ⟨bg, 0, none⟩) (m.gs.length + 1) (2 * (m.gs.length + 1)), .slice (some ⟨ba, 0, none⟩) (m.arrays.length + 1) (2 * (m.arrays.length + 1)), .slice (some ⟨bc, 0, none⟩) (m.chans.length + 1) (2 * (m.chans.length + 1)), lentV' bf m.fns.length]) (extM m l) := ⟨_, _, _, _, rfl, r1, r2, r3, fnsA⟩
  have goodE := good_ext (l := l) good c1 c2 c3
  have fitE := fits_ext (l := l) hf c1 c2 c3
  have s04 := k04.size
  have s07 := k07.size
  have k0A : Keeps H Ha := ⟨by omega, fun j hj => (oth j (by omega) (by omega) (by omega) (by omega) (by omega)).trans (k07.get j hj)⟩
  have h4A := h4.ext k0A
  refine seq_assoc (seq_region ?_)
  refine ops_cons rfl (does_load (v := .agg #[.slice (some ⟨bg, 0, none⟩) (m.gs.length + 1) (2 * (m.gs.length + 1)), .slice (some ⟨ba, 0, none⟩) (m.arrays.length + 1) (2 * (m.arrays.length + 1)), .slice (some ⟨bc, 0, none⟩) (m.chans.length + 1) (2 * (m.chans.length + 1)), lentV' bf m.fns.length]) rfl gaA' rfl ?_)
  refine ops_cons rfl (does_call rfl rfl ((scheck_ok mdA fitE).mono ?_))
  rintro ⟨eb, Tb, Hb, dsb, vb⟩ ⟨x1, x2, x3, rfl, hcb, kb⟩
  simp only at kb
  obtain ⟨rfl, rfl, rfl⟩ := good_zero goodE hcb
  refine ops_cons rfl (does_val (v := .agg #[.int .i64 0, .int .i64 0, .int .i64 0]) rfl ?_)
  refine ops_cons rfl (does_flat rfl (fault_neq 0 0 0 0 0 0 _ _) ?_)
  rw [decide_eq_false (fun hh => hh ⟨rfl, rfl, rfl⟩)]
  refine ops_nil ⟨mT v l f n (.bool false) n5 undef undef undef (.bool false) (.bool false) (.bool true) (.bool false) undef undef undef, rfl, ?_⟩
  refine seq_cond false rfl (seq_skip ?_)
  exact more_tail (mt := extM m l) (kb.some gnA) (h4A.ext kb) hf (kb.some gaA') (fun H' o => rowsE H' fun j h1 h2 => (o j (Nat.lt_of_lt_of_le h1 kb.size) h2).trans (kb.get j h1)) (kb.some ffA) lm.len (fun i h1 h2 => (eachA i h1 h2).ext kb) rfl goodE fitE (by omega) fun _ _ _ _ _ _ _ _ _ _ _ => ⟨.inr rfl, _, _, rfl, rfl, rfl⟩
end Go.Proofs.Ytnngilpiajgobaa.Shape
