/- The shape laws: raw code without a fault leads on. -/
import Derived.Test.YtnngilpiajgobaaShapeChecksLaw
set_option linter.unusedVariables false
set_option linter.unusedSimpArgs false
set_option maxRecDepth 10000
namespace Go.Proofs.Ytnngilpiajgobaa.Shape
open Go.Proofs.Ytnngilpiajgobaa.AM
theorem runs_ext {f : FuncId} {args : List Value} {H H' : AH TV} {v : Value} {Q : Res TV → Prop} (h : E.ext f args H = some (v, H')) (hq : Q ⟨.norm, [], H', [], v⟩) : ARuns E (.call f args H) Q :=
  runs_done (fun rec => by show sExt (E.ext f args H) _ = _; rw [h]; rfl) hq
theorem eq_i64' (t : TypeId) (k : IntKind) (ht : Try.prog.underlying t = some (.int k)) (d : Nat) (a b : Int) : pureRun Try.prog (Op.equalIn (d + 1) t (.int k a) (.int k b)) = some (a == b) := eq_i64 t k ht d a b
theorem fault_ne (a b c a' b' c' : Int) (hne : ¬ (a = a' ∧ b = b' ∧ c = c')) : pureRun Try.prog (Op.equal 43 (.agg #[.int .i64 a, .int .i64 b, .int .i64 c]) (.agg #[.int .i64 a', .int .i64 b', .int .i64 c'])) = some false := by
  have u := pureRun_under _ _ _ Try.underlying43
  have h2 : Try.prog.stoodInHeld 43 = false := by kernel_rfl
  simp only [Op.equal]
  rw [show Op.maxDepth = 9998 + 1 + 1 from rfl, Op.equalIn]
  have n1 : ("Err" : String) ≠ "_" := by decide
  have n2 : ("Func" : String) ≠ "_" := by decide
  have n3 : ("At" : String) ≠ "_" := by decide
  by_cases ha : a = a'
  · subst ha
    by_cases hb : b = b'
    · subst hb
      have hc : (c == c') = false := by rw [beq_eq_false_iff_ne]; intro h; exact hne ⟨rfl, rfl, h⟩
      simp only [pureRun_bind, pureRun_prog, pureRun_pure, h2, u, Option.bind_some, Bool.false_eq_true, if_false, List.forIn_toArray, List.forIn_cons, List.forIn_nil, ne_eq, n1, n2, n3, not_false_eq_true, if_true, eq_i64 _ _ Try.underlying36, eq_i64 _ _ Try.underlying3, part_int _ _ Try.underlying36 #[.int .i64 a, .int .i64 b, .int .i64 c] 0 (.int .i64 a) rfl, part_int _ _ Try.underlying3 #[.int .i64 a, .int .i64 b, .int .i64 c] 1 (.int .i64 b) rfl, part_int _ _ Try.underlying3 #[.int .i64 a, .int .i64 b, .int .i64 c] 2 (.int .i64 c) rfl,
        part_int _ _ Try.underlying36 #[.int .i64 a, .int .i64 b, .int .i64 c'] 0 (.int .i64 a) rfl, part_int _ _ Try.underlying3 #[.int .i64 a, .int .i64 b, .int .i64 c'] 1 (.int .i64 b) rfl, part_int _ _ Try.underlying3 #[.int .i64 a, .int .i64 b, .int .i64 c'] 2 (.int .i64 c') rfl, beq_self_eq_true, Bool.not_true, hc, Bool.not_false]
    · have hb' : (b == b') = false := by rw [beq_eq_false_iff_ne]; exact hb
      simp only [pureRun_bind, pureRun_prog, pureRun_pure, h2, u, Option.bind_some, Bool.false_eq_true, if_false, List.forIn_toArray, List.forIn_cons, List.forIn_nil, ne_eq, n1, n2, n3, not_false_eq_true, if_true, eq_i64 _ _ Try.underlying36, eq_i64 _ _ Try.underlying3, part_int _ _ Try.underlying36 #[.int .i64 a, .int .i64 b, .int .i64 c] 0 (.int .i64 a) rfl, part_int _ _ Try.underlying3 #[.int .i64 a, .int .i64 b, .int .i64 c] 1 (.int .i64 b) rfl,
        part_int _ _ Try.underlying36 #[.int .i64 a, .int .i64 b', .int .i64 c'] 0 (.int .i64 a) rfl, part_int _ _ Try.underlying3 #[.int .i64 a, .int .i64 b', .int .i64 c'] 1 (.int .i64 b') rfl, beq_self_eq_true, Bool.not_true, hb', Bool.not_false]
  · have ha' : (a == a') = false := by rw [beq_eq_false_iff_ne]; exact ha
    simp only [pureRun_bind, pureRun_prog, pureRun_pure, h2, u, Option.bind_some, Bool.false_eq_true, if_false, List.forIn_toArray, List.forIn_cons, List.forIn_nil, ne_eq, n1, n2, n3, not_false_eq_true, if_true, eq_i64 _ _ Try.underlying36, part_int _ _ Try.underlying36 #[.int .i64 a, .int .i64 b, .int .i64 c] 0 (.int .i64 a) rfl, part_int _ _ Try.underlying36 #[.int .i64 a', .int .i64 b', .int .i64 c'] 0 (.int .i64 a') rfl, ha', Bool.not_false]
theorem fault_neq (a b c a' b' c' : Int) (x y : Operand) : aflat Try.prog (.bin .neq 43 x y) [.agg #[.int .i64 a, .int .i64 b, .int .i64 c], .agg #[.int .i64 a', .int .i64 b', .int .i64 c']] = some (.bool (decide (¬ (a = a' ∧ b = b' ∧ c = c')))) := by
  have h1 : Try.prog.eqGuardType Try.prog.depth 43 = false := by kernel_rfl
  have he : pureRun Try.prog (Op.equal 43 (.agg #[.int .i64 a, .int .i64 b, .int .i64 c]) (.agg #[.int .i64 a', .int .i64 b', .int .i64 c'])) = some (decide (a = a' ∧ b = b' ∧ c = c')) := by
    by_cases h : a = a' ∧ b = b' ∧ c = c'
    · obtain ⟨rfl, rfl, rfl⟩ := h
      rw [decide_eq_true ⟨rfl, rfl, rfl⟩]
      exact triple_eq 43 36 3 3 .i64 .i64 .i64 _ Try.underlying43 _ _ _ rfl (by decide) (by decide) (by decide) ⟨rfl, rfl⟩ ⟨rfl, rfl⟩ ⟨rfl, rfl⟩ Try.underlying36 Try.underlying3 Try.underlying3 (by kernel_rfl) a b c
    · rw [decide_eq_false h]
      exact fault_ne a b c a' b' c' h
  simp only [aflat]
  rw [if_pos (by simp [flat, flat1])]
  simp only [flatSem, eqGuard, binOp]
  simp only [pureRun_bind, pureRun_prog, pureRun_pure, h1, he, Option.bind_some, Bool.not_true, Bool.false_eq_true, if_false, Bool.not_false, if_true]
  rw [decide_not]
  rfl
def nextL (code : List (Int × Int)) (a : Nat) : List Int :=
  if (code.getD a (0, 0)).1 = 43 then [(code.getD a (0, 0)).2] else
  if (code.getD a (0, 0)).1 = 44 then [(a : Int) + 1, (code.getD a (0, 0)).2] else
  if (code.getD a (0, 0)).1 = 46 then [(code.length : Int)] else [(a : Int) + 1]
def cellsI (l : List Int) : List Value := l.map (.int .i64)
set_option maxHeartbeats 1000000 in
theorem next_ok {vc : Value} {H : AH TV} {code : List (Int × Int)} {a : Nat} (h : RowS H vc (cellsC code)) (ha : a < code.length) (hl : code.length ≤ 4611686018427387904) :
    ARuns E (.call 24 [vc, .int .i64 (a : Nat)] H) fun r => RowOf r.H r.v (cellsI (nextL code a)) ∧ Keeps H r.H := by
  obtain ⟨ac, cc, ec⟩ := lenSC h
  obtain ⟨b1, o1, c1, kk1, w1, l1, e1, g1, q1, h1⟩ := atC h ha
  have hg : code[a] = code.getD a (0, 0) := by simp [List.getD, ha]
  rw [hg] at q1
  generalize hop : (code.getD a (0, 0)).1 = op at q1
  generalize hA : (code.getD a (0, 0)).2 = A at q1
  obtain ⟨n, hn⟩ : ∃ n, Vec.size H = n := ⟨_, rfl⟩
  refine runs_call rfl rfl ?_
  refine seq_region (ops_nil ⟨[vc, .int .i64 (a : Nat), .slice none 0 0, undef, undef, undef, undef, undef, undef], rfl, ?_⟩)
  refine seq_region ?_
  refine ops_cons rfl (does_iaddr (j := a) (by rw [e1]; rfl) rfl ha ?_)
  refine ops_cons rfl (does_load (v := .agg #[.int .i64 op, .int .i64 A]) rfl g1 (acells_some q1 h1) ?_)
  refine ops_cons rfl (does_alloc hn fun H4 z4 (k4 : Keeps H H4) g4 => ?_)
  refine ops_cons rfl (does_store rfl rfl rfl rfl rfl g4 (Nat.zero_le _) (show 2 ≤ 2 by omega) (ops_nil ⟨[vc, .int .i64 (a : Nat), .slice none 0 0, .pointer (some ⟨n, 0, none⟩), undef, undef, undef, undef, undef], rfl, ?_⟩))
  obtain ⟨H5, hH5⟩ : ∃ H5, Vec.set H4 n (.arr [.int .i64 op, .int .i64 A] true 0) = H5 := ⟨_, rfl⟩
  have g5 : Vec.get H5 n = some (.arr [.int .i64 op, .int .i64 A] true 0) := by rw [← hH5]; exact get_set_same (by omega)
  have k5 : Keeps H H5 := by rw [← hH5]; exact k4.set _ (by omega)
  show ARuns E (.code false _ _ (Vec.set H4 n (.arr [.int .i64 op, .int .i64 A] true 0)) []) _
  rw [hH5]
  clear hH5
  refine seq_region (ops_cons rfl (does_val (v := .int .i64 ((a : Int) + 1)) (by show some (Value.int .i64 (aw .i64 ((a : Int) + 1)), _) = _; rw [aw64 (by omega) (by omega)]) (ops_nil ⟨[vc, .int .i64 (a : Nat), .slice none 0 0, .pointer (some ⟨n, 0, none⟩), .int .i64 ((a : Int) + 1), undef, undef, undef, undef], rfl, ?_⟩)))
  refine seq_assoc (seq_region ?_)
  refine ops_cons rfl (does_val rfl ?_)
  refine ops_cons rfl (does_load (v := .int .i64 op) rfl g5 rfl (ops_nil ⟨[vc, .int .i64 (a : Nat), .slice none 0 0, .pointer (some ⟨n, 0, none⟩), .int .i64 ((a : Int) + 1), .int .i64 op, undef, undef, undef], rfl, ?_⟩))
  have row : ∀ (l : List Int), RowOf (anew H5 (cellsI l)) (.slice (some ⟨Vec.size H5, 0, none⟩) l.length (2 * l.length + 1)) (cellsI l) := fun l =>
    .inr ⟨Vec.size H5, 0, 2 * l.length + 1, cellsI l, true, 0, by simp [cellsI], get_anew_same _ _, by simp [List.take_of_length_le], by simp⟩
  refine seq_block ?_
  refine seq_region ?_
  by_cases h43 : op = 43
  · refine ops_cons rfl (does_val (v := .bool true) (by show some (Value.bool (op == _), _) = _; simp [h43]) (ops_nil ⟨_, rfl, ?_⟩))
    refine runs_cond true rfl ?_
    refine seq_region ?_
    refine ops_cons rfl (does_val rfl ?_)
    refine ops_cons rfl (does_load (v := .int .i64 A) rfl g5 rfl ?_)
    refine ops_cons rfl (does_op (.slice (some ⟨Vec.size H5, 0, none⟩) 1 3) (anew H5 (cellsI [A])) rfl (ops_nil ⟨_, rfl, ?_⟩))
    refine runs_ret ⟨.inr rfl, _, _, rfl, rfl, ?_, k5.anew _⟩
    have : nextL code a = [A] := by unfold nextL; rw [hop, hA, if_pos h43]
    rw [this]
    exact row [A]
  refine ops_cons rfl (does_val (v := .bool false) (by show some (Value.bool (op == _), _) = _; simp [h43]) (ops_nil ⟨[vc, .int .i64 (a : Nat), .slice none 0 0, .pointer (some ⟨n, 0, none⟩), .int .i64 ((a : Int) + 1), .int .i64 op, .bool false, undef, undef], rfl, ?_⟩))
  refine runs_cond false rfl ?_
  refine seq_region ?_
  by_cases h44 : op = 44
  · refine ops_cons rfl (does_val (v := .bool true) (by show some (Value.bool (op == _), _) = _; simp [h44]) (ops_nil ⟨_, rfl, ?_⟩))
    refine runs_cond true rfl ?_
    refine seq_region ?_
    refine ops_cons rfl (does_val rfl ?_)
    refine ops_cons rfl (does_load (v := .int .i64 A) rfl g5 rfl ?_)
    refine ops_cons rfl (does_op (.slice (some ⟨Vec.size H5, 0, none⟩) 2 5) (anew H5 (cellsI [(a : Int) + 1, A])) rfl (ops_nil ⟨_, rfl, ?_⟩))
    refine runs_ret ⟨.inr rfl, _, _, rfl, rfl, ?_, k5.anew _⟩
    have : nextL code a = [(a : Int) + 1, A] := by unfold nextL; rw [hop, hA, if_neg h43, if_pos h44]
    rw [this]
    exact row [(a : Int) + 1, A]
  refine ops_cons rfl (does_val (v := .bool false) (by show some (Value.bool (op == _), _) = _; simp [h44]) (ops_nil ⟨[vc, .int .i64 (a : Nat), .slice none 0 0, .pointer (some ⟨n, 0, none⟩), .int .i64 ((a : Int) + 1), .int .i64 op, .bool false, .bool false, undef], rfl, ?_⟩))
  refine runs_cond false rfl ?_
  refine seq_region ?_
  by_cases h46 : op = 46
  · refine ops_cons rfl (does_val (v := .bool true) (by show some (Value.bool (op == _), _) = _; simp [h46]) (ops_nil ⟨_, rfl, ?_⟩))
    refine runs_cond true rfl ?_
    refine seq_region ?_
    refine ops_cons rfl (does_val (v := .int .i64 ((code.length : Nat) : Int)) (by rw [ec]; rfl) ?_)
    refine ops_cons rfl (does_op (.slice (some ⟨Vec.size H5, 0, none⟩) 1 3) (anew H5 (cellsI [((code.length : Nat) : Int)])) rfl (ops_nil ⟨_, rfl, ?_⟩))
    refine runs_ret ⟨.inr rfl, _, _, rfl, rfl, ?_, k5.anew _⟩
    have : nextL code a = [(code.length : Int)] := by unfold nextL; rw [hop, if_neg h43, if_neg h44, if_pos h46]
    rw [this]
    exact row [(code.length : Int)]
  refine ops_cons rfl (does_val (v := .bool false) (by show some (Value.bool (op == _), _) = _; simp [h46]) (ops_nil ⟨[vc, .int .i64 (a : Nat), .slice none 0 0, .pointer (some ⟨n, 0, none⟩), .int .i64 ((a : Int) + 1), .int .i64 op, .bool false, .bool false, .bool false], rfl, ?_⟩))
  refine runs_cond false rfl (runs_skip ?_)
  show ARuns E _ _
  refine seq_region ?_
  refine ops_cons rfl (does_op (.slice (some ⟨Vec.size H5, 0, none⟩) 1 3) (anew H5 (cellsI [(a : Int) + 1])) rfl (ops_nil ⟨_, rfl, ?_⟩))
  refine runs_ret ⟨.inr rfl, _, _, rfl, rfl, ?_, k5.anew _⟩
  have : nextL code a = [(a : Int) + 1] := by unfold nextL; rw [hop, if_neg h43, if_neg h44, if_neg h46]
  rw [this]
  exact row [(a : Int) + 1]
theorem good_all {m : Md} (h : IsCheck m 0 0 0) : ∀ j, j < m.fns.length → FnGood m j := by
  rcases h with ⟨_, h, _⟩ | ⟨_, _, _, _, _, h, _⟩ | ⟨_, _, fi, _, _, h, _⟩ | ⟨_, _, h, _⟩
  · cases h
  · cases h
  · rcases h with ⟨h1, h2, _⟩ | ⟨_, i, _, h1, _, h2, _⟩
    · exact absurd h2.symm h1
    · exact absurd h2.symm h1
  · exact h
/-- What the stage's theorem says of one address. -/
theorem leads {m : Md} {fi a : Nat} (hg : FnGood m fi) (hfi : fi < m.fns.length) (ha : a < (fnOf m fi).code.length) : instrSpec m fi (insAt m fi a).1 (insAt m fi a).2 = 0 ∧
    ∀ x ∈ nextL (fnOf m fi).code a, 0 ≤ x ∧ x ≤ ((fnOf m fi).code.length : Int) ∧ (x = ((fnOf m fi).code.length : Int) ↔ (insAt m fi a).1 = 46) := by
  have he := hg.2 a ha
  have hr : (0 : Int) ≤ (fi : Int) ∧ (fi : Int) < m.fns.length := by omega
  have h0 : instrSpec m fi (insAt m fi a).1 (insAt m fi a).2 = 0 := by
    unfold errAt at he
    split at he
    · cases he
    · exact he
  have hlast : a + 1 = (fnOf m fi).code.length → (insAt m fi a).1 = 43 ∨ (insAt m fi a).1 = 46 := fun hh => by
    by_cases q1 : (insAt m fi a).1 = 43
    · exact .inl q1
    · by_cases q2 : (insAt m fi a).1 = 46
      · exact .inr q2
      · rw [errAt, if_pos ⟨h0, hh, q1, q2⟩] at he
        cases he
  have hroom : (insAt m fi a).1 = 43 ∨ (insAt m fi a).1 = 44 → 0 ≤ (insAt m fi a).2 ∧ (insAt m fi a).2 < ((fnOf m fi).code.length : Int) := fun hop => by
    have hR : roomSpec m fi (insAt m fi a).1 = ((fnOf m fi).code.length : Int) := by
      rcases hop with h | h <;> simp [roomSpec, h]
    have := h0
    rw [instrSpec, if_neg (by omega), hR] at this
    rw [if_neg (by omega)] at this
    split at this
    · cases this
    · omega
  refine ⟨h0, fun x hx => ?_⟩
  have e : (fnOf m fi).code.getD a (0, 0) = insAt m fi a := rfl
  unfold nextL at hx
  rw [e] at hx
  split at hx
  · next h43 =>
    simp only [List.mem_singleton] at hx
    subst hx
    have := hroom (.inl h43)
    omega
  · split at hx
    · next h43 h44 =>
      have := hroom (.inr h44)
      have hn : a + 1 ≠ (fnOf m fi).code.length := fun hh => by rcases hlast hh with q | q <;> omega
      simp only [List.mem_cons, List.not_mem_nil, or_false] at hx
      rcases hx with rfl | rfl <;> omega
    · split at hx
      · next h43 h44 h46 =>
        simp only [List.mem_singleton] at hx
        subst hx
        omega
      · next h43 h44 h46 =>
        have hn : a + 1 ≠ (fnOf m fi).code.length := fun hh => by rcases hlast hh with q | q <;> omega
        simp only [List.mem_singleton] at hx
        subst hx
        omega
set_option maxHeartbeats 4000000 in
theorem graph_ok {v : Value} {H : AH TV} {m : Md} (h : MdAt H v m) (hf : MdFits m) : ARuns E (.call 6 [v] H) fun r => r.v = .bool true := by
  have hro : room = 140737488355328 := rfl
  have f2 := hf.fns
  have hm := h
  obtain ⟨vg, va, vc, vf, rfl, h1, h2, h3, h4⟩ := h
  obtain ⟨ag, cg, rfl⟩ := lenU h1
  obtain ⟨aa, ca, rfl⟩ := lenSA h2
  obtain ⟨ac, cc, rfl⟩ := lenU h3
  obtain ⟨af, cf, rfl⟩ := h4.len
  obtain ⟨n, hn⟩ : ∃ n, Vec.size H = n := ⟨_, rfl⟩
  refine runs_call rfl rfl ?_
  refine seq_region ?_
  refine ops_cons rfl (does_box (cs := [.slice ag m.gs.length cg, .slice aa m.arrays.length ca, .slice ac m.chans.length cc, .slice af m.fns.length cf]) rfl rfl hn fun H1 z1 k1 g1 => ops_nil ⟨[(.agg #[.slice ag m.gs.length cg, .slice aa m.arrays.length ca, .slice ac m.chans.length cc, .slice af m.fns.length cf]), (.pointer (some ⟨n, 0, none⟩)), (.bool false), undef, undef, undef, undef, undef, undef, undef, undef, undef, undef, undef, undef], rfl, ?_⟩)
  refine seq_assoc (seq_region ?_)
  refine ops_cons rfl (does_call rfl rfl (runs_ext (H' := H1) (v := .bool true) rfl ?_))
  refine ops_cons rfl (does_val (v := .bool false) rfl (ops_nil ⟨[(.agg #[.slice ag m.gs.length cg, .slice aa m.arrays.length ca, .slice ac m.chans.length cc, .slice af m.fns.length cf]), (.pointer (some ⟨n, 0, none⟩)), (.bool false), undef, undef, undef, undef, undef, (.bool false), undef, undef, undef, undef, undef, undef], rfl, ?_⟩))
  refine seq_cond false rfl (seq_skip ?_)
  refine seq_assoc (seq_region ?_)
  refine ops_cons rfl (does_load (v := (.agg #[.slice ag m.gs.length cg, .slice aa m.arrays.length ca, .slice ac m.chans.length cc, .slice af m.fns.length cf])) rfl g1 rfl ?_)
  refine ops_cons rfl (does_call rfl rfl ((lentModule_ok (hm.ext k1) hf).mono ?_))
  rintro ⟨e3, T3, H3, ds3, v3⟩ ⟨bg, ba, bc, bf, es, lm, k3⟩
  simp only at lm k3
  refine ops_cons rfl (does_call rfl rfl ((scheck_ok lm.md hf).mono ?_))
  rintro ⟨e4, T4, H4, ds4, v4⟩ ⟨x1, x2, x3, rfl, hc, k4⟩
  simp only at k4
  refine ops_cons rfl (does_val (v := .agg #[.int .i64 0, .int .i64 0, .int .i64 0]) rfl ?_)
  refine ops_cons rfl (does_flat rfl (fault_neq x1 x2 x3 0 0 0 _ _) ?_)
  by_cases hz : x1 = 0 ∧ x2 = 0 ∧ x3 = 0
  case neg =>
    rw [decide_eq_true hz]
    refine ops_nil ⟨_, rfl, ?_⟩
    refine seq_cond true rfl ?_
    refine seq_assoc (seq_region (ops_nil ⟨_, rfl, ?_⟩))
    exact seq_ret ⟨.inr rfl, _, _, rfl, rfl, rfl⟩
  rw [decide_eq_false (fun hh => hh hz)]
  refine ops_nil ⟨[(.agg #[.slice ag m.gs.length cg, .slice aa m.arrays.length ca, .slice ac m.chans.length cc, .slice af m.fns.length cf]), (.pointer (some ⟨n, 0, none⟩)), (.bool false), undef, undef, undef, undef, undef, (.bool false), (.bool false), undef, undef, undef, undef, undef], rfl, ?_⟩
  refine seq_cond false rfl (seq_skip ?_)
  obtain ⟨rfl, rfl, rfl⟩ := hz
  have good := good_all hc
  have k24 := k3.trans k4
  have g4 := k24.some g1
  have k04 := k1.trans k24
  refine seq_assoc (seq_region (ops_nil ⟨[(.agg #[.slice ag m.gs.length cg, .slice aa m.arrays.length ca, .slice ac m.chans.length cc, .slice af m.fns.length cf]), (.pointer (some ⟨n, 0, none⟩)), (.bool false), (.int .i64 0), undef, undef, undef, undef, (.bool false), (.bool false), undef, undef, undef, undef, undef], rfl, ?_⟩))
  refine seq_loop (fun q T H' ds => ∃ (i : Nat) (y4 y5 y6 y7 y8 y9 y10 y11 y12 y13 y14 : Value), q = m.fns.length - i ∧ i ≤ m.fns.length ∧ T = [(.agg #[.slice ag m.gs.length cg, .slice aa m.arrays.length ca, .slice ac m.chans.length cc, .slice af m.fns.length cf]), (.pointer (some ⟨n, 0, none⟩)), (.bool false), (.int .i64 (i : Nat)), y4, y5, y6, y7, y8, y9, y10, y11, y12, y13, y14] ∧ Keeps H4 H' ∧ ds = []) m.fns.length ⟨0, _, _, _, _, _, _, _, _, _, _, _, rfl, Nat.zero_le _, rfl, .refl _, rfl⟩ ?_
  rintro q T H6 ds ⟨i, y4, y5, y6, y7, y8, y9, y10, y11, y12, y13, y14, rfl, hi, rfl, k46, rfl⟩
  have g6 := k46.some g4
  have k6 := k04.trans k46
  refine seq_assoc (seq_region ?_)
  refine ops_cons rfl (does_val rfl ?_)
  refine ops_cons rfl (does_load (v := (.slice af m.fns.length cf)) rfl g6 rfl ?_)
  refine ops_cons rfl (does_val rfl ?_)
  by_cases hlt : i < m.fns.length
  case neg =>
    refine ops_cons rfl (does_val (v := .bool false) (by show some (Value.bool (decide _), _) = _; simp; omega) (ops_nil ⟨[(.agg #[.slice ag m.gs.length cg, .slice aa m.arrays.length ca, .slice ac m.chans.length cc, .slice af m.fns.length cf]), (.pointer (some ⟨n, 0, none⟩)), (.bool false), (.int .i64 (i : Nat)), y4, y5, y6, y7, y8, y9, (.bool false), y11, y12, y13, y14], rfl, ?_⟩))
    refine seq_cond false rfl (seq_exit ?_)
    show ARuns E _ _
    refine seq_region (ops_nil ⟨_, rfl, ?_⟩)
    exact runs_ret ⟨.inr rfl, _, _, rfl, rfl, rfl⟩
  refine ops_cons rfl (does_val (v := .bool true) (by show some (Value.bool (decide _), _) = _; simp; omega) (ops_nil ⟨[(.agg #[.slice ag m.gs.length cg, .slice aa m.arrays.length ca, .slice ac m.chans.length cc, .slice af m.fns.length cf]), (.pointer (some ⟨n, 0, none⟩)), (.bool false), (.int .i64 (i : Nat)), y4, y5, y6, y7, y8, y9, (.bool true), y11, y12, y13, y14], rfl, ?_⟩))
  refine seq_cond true rfl (seq_skip ?_)
  obtain ⟨b, off, ce, blk, w, lo, vp, vr, vcd, e1, g2, p, hb, r1, r2, r3⟩ := fn_at (h4.ext k6) hlt
  obtain ⟨ax, cx, ex⟩ := lenSC r3
  have hfit := hf.each _ (List.getElem_mem hlt)
  rw [← fnOf_at hlt] at hfit
  have hfit3 := hfit.2.2
  rw [hro] at hfit3
  refine seq_block (seq_region ?_)
  refine ops_cons rfl (does_val rfl ?_)
  refine ops_cons rfl (does_load (v := (.slice af m.fns.length cf)) rfl g6 rfl ?_)
  refine ops_cons rfl (does_iaddr (j := i) (by rw [e1]; rfl) rfl hlt ?_)
  refine ops_cons rfl (does_val rfl ?_)
  refine ops_cons rfl (does_load (v := vcd) rfl g2 (acells_at (j := 5) p rfl) ?_)
  refine ops_cons rfl (does_val (v := .int .i64 (((fnOf m i).code.length : Nat) : Int)) (by rw [ex]; rfl) (ops_nil ⟨[(.agg #[.slice ag m.gs.length cg, .slice aa m.arrays.length ca, .slice ac m.chans.length cc, .slice af m.fns.length cf]), (.pointer (some ⟨n, 0, none⟩)), (.bool false), (.int .i64 (i : Nat)), (.int .i64 (((fnOf m i).code.length : Nat) : Int)), y5, y6, y7, y8, y9, (.bool true), y11, y12, y13, y14], rfl, ?_⟩))
  refine seq_region (ops_nil ⟨[(.agg #[.slice ag m.gs.length cg, .slice aa m.arrays.length ca, .slice ac m.chans.length cc, .slice af m.fns.length cf]), (.pointer (some ⟨n, 0, none⟩)), (.bool false), (.int .i64 (i : Nat)), (.int .i64 (((fnOf m i).code.length : Nat) : Int)), (.int .i64 0), y6, y7, y8, y9, (.bool true), y11, y12, y13, y14], rfl, ?_⟩)
  refine runs_loop_block (fun q T H' ds => ∃ (a : Nat) (x6 x7 x8 x9 x10 x11 x12 x13 x14 : Value), q = (fnOf m i).code.length - a ∧ a ≤ (fnOf m i).code.length ∧ T = [(.agg #[.slice ag m.gs.length cg, .slice aa m.arrays.length ca, .slice ac m.chans.length cc, .slice af m.fns.length cf]), (.pointer (some ⟨n, 0, none⟩)), (.bool false), (.int .i64 (i : Nat)), (.int .i64 (((fnOf m i).code.length : Nat) : Int)), (.int .i64 (a : Nat)), x6, x7, x8, x9, x10, x11, x12, x13, x14] ∧ Keeps H6 H' ∧ ds = []) (fnOf m i).code.length ⟨0, _, _, _, _, _, _, _, _, _, rfl, Nat.zero_le _, rfl, .refl _, rfl⟩ ?_
  rintro q T H7 ds ⟨a, x6, x7, x8, x9, x10, x11, x12, x13, x14, rfl, ha, rfl, k67, rfl⟩
  have g7 := k67.some g6
  have g27 := k67.some g2
  have k7 := k6.trans k67
  refine seq_assoc (seq_region ?_)
  by_cases hal : a < (fnOf m i).code.length
  case neg =>
    refine ops_cons rfl (does_val (v := .bool false) (by show some (Value.bool (decide _), _) = _; simp; omega) (ops_nil ⟨[(.agg #[.slice ag m.gs.length cg, .slice aa m.arrays.length ca, .slice ac m.chans.length cc, .slice af m.fns.length cf]), (.pointer (some ⟨n, 0, none⟩)), (.bool false), (.int .i64 (i : Nat)), (.int .i64 (((fnOf m i).code.length : Nat) : Int)), (.int .i64 (a : Nat)), x6, x7, x8, x9, x10, (.bool false), x12, x13, x14], rfl, ?_⟩))
    refine seq_cond false rfl (seq_exit ?_)
    show ARuns E _ _
    refine runs_region (ops_cons rfl (does_inc rfl rfl (by omega) (ops_nil ⟨_, rfl, ?_⟩)))
    exact ⟨m.fns.length - (i + 1), by omega, i + 1, _, _, _, _, _, _, _, _, _, _, _, rfl, by omega, rfl, k46.trans k67, rfl⟩
  refine ops_cons rfl (does_val (v := .bool true) (by show some (Value.bool (decide _), _) = _; simp; omega) (ops_nil ⟨[(.agg #[.slice ag m.gs.length cg, .slice aa m.arrays.length ca, .slice ac m.chans.length cc, .slice af m.fns.length cf]), (.pointer (some ⟨n, 0, none⟩)), (.bool false), (.int .i64 (i : Nat)), (.int .i64 (((fnOf m i).code.length : Nat) : Int)), (.int .i64 (a : Nat)), x6, x7, x8, x9, x10, (.bool true), x12, x13, x14], rfl, ?_⟩))
  refine seq_cond true rfl (seq_skip ?_)
  obtain ⟨hins, hnext⟩ := leads (good i hlt) hlt hal
  refine seq_block (seq_region ?_)
  refine ops_cons rfl (does_val rfl ?_)
  refine ops_cons rfl (does_load (v := (.slice af m.fns.length cf)) rfl g7 rfl ?_)
  refine ops_cons rfl (does_iaddr (j := i) (by rw [e1]; rfl) rfl hlt ?_)
  refine ops_cons rfl (does_val rfl ?_)
  refine ops_cons rfl (does_load (v := vcd) rfl g27 (acells_at (j := 5) p rfl) ?_)
  refine ops_cons rfl (does_call rfl rfl ((next_ok (r3.ext k67) hal (by omega)).mono ?_))
  rintro ⟨e8, T8, H8, ds8, vl⟩ ⟨rl, k78⟩
  simp only at rl k78
  have hll : (cellsI (nextL (fnOf m i).code a)).length = (nextL (fnOf m i).code a).length := by simp [cellsI]
  obtain ⟨al, cl, el⟩ := rl.len
  rw [hll] at el
  refine ops_nil ⟨[(.agg #[.slice ag m.gs.length cg, .slice aa m.arrays.length ca, .slice ac m.chans.length cc, .slice af m.fns.length cf]), (.pointer (some ⟨n, 0, none⟩)), (.bool false), (.int .i64 (i : Nat)), (.int .i64 (((fnOf m i).code.length : Nat) : Int)), (.int .i64 (a : Nat)), vl, x7, x8, x9, x10, (.bool true), x12, x13, x14], rfl, ?_⟩
  have g8 := k78.some g7
  have g28 := k78.some g27
  have k8 := k7.trans k78
  have k68 := k67.trans k78
  refine seq_assoc (seq_region (ops_nil ⟨[(.agg #[.slice ag m.gs.length cg, .slice aa m.arrays.length ca, .slice ac m.chans.length cc, .slice af m.fns.length cf]), (.pointer (some ⟨n, 0, none⟩)), (.bool false), (.int .i64 (i : Nat)), (.int .i64 (((fnOf m i).code.length : Nat) : Int)), (.int .i64 (a : Nat)), vl, (.int .i64 0), x8, x9, x10, (.bool true), x12, x13, x14], rfl, ?_⟩))
  have hl2 : (nextL (fnOf m i).code a).length ≤ 2 := by unfold nextL; split <;> (try split) <;> (try split) <;> simp
  refine seq_loop (fun q T H' ds => ∃ (j : Nat) (z8 z9 z10 z11 z12 z13 z14 : Value), q = (nextL (fnOf m i).code a).length - j ∧ j ≤ (nextL (fnOf m i).code a).length ∧ T = [(.agg #[.slice ag m.gs.length cg, .slice aa m.arrays.length ca, .slice ac m.chans.length cc, .slice af m.fns.length cf]), (.pointer (some ⟨n, 0, none⟩)), (.bool false), (.int .i64 (i : Nat)), (.int .i64 (((fnOf m i).code.length : Nat) : Int)), (.int .i64 (a : Nat)), vl, (.int .i64 (j : Nat)), z8, z9, z10, z11, z12, z13, z14] ∧ H8 = H' ∧ ds = []) (nextL (fnOf m i).code a).length ⟨0, _, _, _, _, _, _, _, rfl, Nat.zero_le _, rfl, rfl, rfl⟩ ?_
  rintro q T H' ds ⟨j, z8, z9, z10, z11, z12, z13, z14, rfl, hj, rfl, rfl, rfl⟩
  obtain ⟨b6, o6, c6, kk6, w6, l6, e6, ga6, p6, s6'⟩ := atC (r3.ext k68) hal
  have hia : (fnOf m i).code[a] = insAt m i a := by simp [insAt, List.getD, hal]
  rw [hia] at p6
  refine seq_assoc (seq_region ?_)
  refine ops_cons rfl (does_val (v := .int .i64 (((nextL (fnOf m i).code a).length : Nat) : Int)) (by rw [el]; rfl) ?_)
  by_cases hjl : j < (nextL (fnOf m i).code a).length
  · refine ops_cons rfl (does_val (v := .bool true) (by show some (Value.bool (decide _), _) = _; simp; omega) (ops_nil ⟨[(.agg #[.slice ag m.gs.length cg, .slice aa m.arrays.length ca, .slice ac m.chans.length cc, .slice af m.fns.length cf]), (.pointer (some ⟨n, 0, none⟩)), (.bool false), (.int .i64 (i : Nat)), (.int .i64 (((fnOf m i).code.length : Nat) : Int)), (.int .i64 (a : Nat)), vl, (.int .i64 (j : Nat)), z8, z9, z10, z11, (.bool true), z13, z14], rfl, ?_⟩))
    refine seq_cond true rfl (seq_skip ?_)
    obtain ⟨bl, ol, cl', kl, wl, ll, el2, gl, ql⟩ := rl.at (i := j) (by rw [hll]; exact hjl)
    rw [hll] at el2
    rw [show (cellsI (nextL (fnOf m i).code a))[j]'(by rw [hll]; exact hjl) = .int .i64 ((nextL (fnOf m i).code a)[j]) by simp [cellsI]] at ql
    obtain ⟨c1, c2, c3⟩ := hnext _ (List.getElem_mem hjl)
    generalize (nextL (fnOf m i).code a)[j] = y at *
    refine seq_block (seq_draw ?_)
    refine draws_cons rfl (does_iaddr (j := j) (by rw [el2]; rfl) rfl hjl ⟨rfl, Nat.le_refl _, ?_⟩)
    refine draws_cons rfl (does_load (v := .int .i64 y) rfl gl ql ⟨rfl, Nat.le_refl _, ?_⟩)
    refine draws_cons rfl (does_val (v := .bool false) (by show some (Value.bool (decide _), _) = _; simp; omega) ⟨rfl, Nat.le_refl _, ?_⟩)
    refine draws_cons rfl (does_val rfl ⟨rfl, Nat.le_refl _, ?_⟩)
    refine draws_cons rfl (does_val rfl ⟨rfl, Nat.le_refl _, ?_⟩)
    refine draws_cons rfl (does_iaddr (j := j) (by rw [el2]; rfl) rfl hjl ⟨rfl, Nat.le_refl _, ?_⟩)
    refine draws_cons rfl (does_load (v := .int .i64 y) rfl gl ql ⟨rfl, Nat.le_refl _, ?_⟩)
    refine draws_cons rfl (does_val rfl ⟨rfl, Nat.le_refl _, ?_⟩)
    refine draws_cons rfl (does_val (v := .bool false) (by show some (Value.bool (decide _), _) = _; simp; omega) ⟨rfl, Nat.le_refl _, ?_⟩)
    refine draws_cons rfl (does_val rfl ⟨rfl, Nat.le_refl _, ?_⟩)
    refine draws_cons rfl (does_val rfl ⟨rfl, Nat.le_refl _, ?_⟩)
    refine draws_cons rfl (does_val rfl ⟨rfl, Nat.le_refl _, ?_⟩)
    refine draws_cons rfl (does_iaddr (j := j) (by rw [el2]; rfl) rfl hjl ⟨rfl, Nat.le_refl _, ?_⟩)
    refine draws_cons rfl (does_load (v := .int .i64 y) rfl gl ql ⟨rfl, Nat.le_refl _, ?_⟩)
    refine draws_cons rfl (does_val rfl ⟨rfl, Nat.le_refl _, ?_⟩)
    refine draws_cons rfl (does_val (v := .bool (decide (y = ((fnOf m i).code.length : Int)))) (by show some (Value.bool (y == ((fnOf m i).code.length : Int)), _) = _; rw [show (y == ((fnOf m i).code.length : Int)) = decide (y = ((fnOf m i).code.length : Int)) from rfl]) ⟨rfl, Nat.le_refl _, ?_⟩)
    refine draws_cons rfl (does_val rfl ⟨rfl, Nat.le_refl _, ?_⟩)
    refine draws_cons rfl (does_load (v := (.slice af m.fns.length cf)) rfl g8 rfl ⟨rfl, Nat.le_refl _, ?_⟩)
    refine draws_cons rfl (does_val rfl ⟨rfl, Nat.le_refl _, ?_⟩)
    refine draws_cons rfl (does_iaddr (j := i) (by rw [e1]; rfl) rfl hlt ⟨rfl, Nat.le_refl _, ?_⟩)
    refine draws_cons rfl (does_val rfl ⟨rfl, Nat.le_refl _, ?_⟩)
    refine draws_cons rfl (does_load (v := vcd) rfl g28 (acells_at (j := 5) p rfl) ⟨rfl, Nat.le_refl _, ?_⟩)
    refine draws_cons rfl (does_val rfl ⟨rfl, Nat.le_refl _, ?_⟩)
    refine draws_cons rfl (does_iaddr (j := a) (by rw [e6]; rfl) rfl hal ⟨rfl, Nat.le_refl _, ?_⟩)
    refine draws_cons rfl (does_val rfl ⟨rfl, Nat.le_refl _, ?_⟩)
    refine draws_cons rfl (does_load (v := .int .i64 (insAt m i a).1) rfl ga6 (acells_at (j := 0) p6 rfl) ⟨rfl, Nat.le_refl _, ?_⟩)
    refine draws_cons rfl (does_val (v := .bool (decide ((insAt m i a).1 = 46))) (by show some (Value.bool ((insAt m i a).1 == 46), _) = _; rw [show ((insAt m i a).1 == 46) = decide ((insAt m i a).1 = 46) from rfl]) ⟨rfl, Nat.le_refl _, ?_⟩)
    refine draws_cons rfl (does_val (v := .bool false) (by show some (Value.bool ((decide (y = ((fnOf m i).code.length : Int)) == decide ((insAt m i a).1 = 46)) != true), _) = _; have hd : decide (y = ((fnOf m i).code.length : Int)) = decide ((insAt m i a).1 = 46) := decide_eq_decide.2 c3; rw [hd]; simp) ⟨rfl, Nat.le_refl _, ?_⟩)
    refine draws_cons rfl (does_val rfl ⟨rfl, Nat.le_refl _, draws_nil ⟨[(.agg #[.slice ag m.gs.length cg, .slice aa m.arrays.length ca, .slice ac m.chans.length cc, .slice af m.fns.length cf]), (.pointer (some ⟨n, 0, none⟩)), (.bool false), (.int .i64 (i : Nat)), (.int .i64 (((fnOf m i).code.length : Nat) : Int)), (.int .i64 (a : Nat)), vl, (.int .i64 (j : Nat)), z8, z9, z10, z11, (.bool true), (.bool false), z14], rfl, ?_⟩⟩)
    refine runs_cond false rfl (runs_skip ?_)
    show ARuns E _ _
    refine runs_region (ops_cons rfl (does_inc rfl rfl (by omega) (ops_nil ⟨_, rfl, ?_⟩)))
    exact ⟨(nextL (fnOf m i).code a).length - (j + 1), by omega, j + 1, _, _, _, _, _, _, _, rfl, by omega, rfl, rfl, rfl⟩
  refine ops_cons rfl (does_val (v := .bool false) (by show some (Value.bool (decide _), _) = _; simp; omega) (ops_nil ⟨[(.agg #[.slice ag m.gs.length cg, .slice aa m.arrays.length ca, .slice ac m.chans.length cc, .slice af m.fns.length cf]), (.pointer (some ⟨n, 0, none⟩)), (.bool false), (.int .i64 (i : Nat)), (.int .i64 (((fnOf m i).code.length : Nat) : Int)), (.int .i64 (a : Nat)), vl, (.int .i64 (j : Nat)), z8, z9, z10, z11, (.bool false), z13, z14], rfl, ?_⟩))
  refine seq_cond false rfl (seq_exit ?_)
  show ARuns E _ _
  have hm8 : MdAt H8 (.agg #[.slice ag m.gs.length cg, .slice aa m.arrays.length ca, .slice ac m.chans.length cc, .slice af m.fns.length cf]) m := hm.ext k8
  refine seq_draw ?_
  refine draws_cons rfl (does_load (v := (.agg #[.slice ag m.gs.length cg, .slice aa m.arrays.length ca, .slice ac m.chans.length cc, .slice af m.fns.length cf])) rfl g8 rfl ⟨rfl, Nat.le_refl _, ?_⟩)
  refine draws_cons rfl (does_val rfl ⟨rfl, Nat.le_refl _, ?_⟩)
  refine draws_cons rfl (does_load (v := (.slice af m.fns.length cf)) rfl g8 rfl ⟨rfl, Nat.le_refl _, ?_⟩)
  refine draws_cons rfl (does_iaddr (j := i) (by rw [e1]; rfl) rfl hlt ⟨rfl, Nat.le_refl _, ?_⟩)
  refine draws_cons rfl (does_val rfl ⟨rfl, Nat.le_refl _, ?_⟩)
  refine draws_cons rfl (does_load (v := vcd) rfl g28 (acells_at (j := 5) p rfl) ⟨rfl, Nat.le_refl _, ?_⟩)
  refine draws_cons rfl (does_iaddr (j := a) (by rw [e6]; rfl) rfl hal ⟨rfl, Nat.le_refl _, ?_⟩)
  refine draws_cons rfl (does_load (v := .agg #[.int .i64 (insAt m i a).1, .int .i64 (insAt m i a).2]) rfl ga6 (acells_some p6 s6') ⟨rfl, Nat.le_refl _, ?_⟩)
  refine draws_cons rfl (does_call rfl rfl ((sinstr_ok hm8 hf).mono ?_))
  rintro ⟨e9, T9, H9, ds9, v9⟩ ⟨rfl, k89⟩
  simp only at k89
  refine ⟨rfl, k89.size, ?_⟩
  refine draws_cons rfl (does_val (v := .bool false) (by show some (Value.bool (instrSpec m (i : Nat) (insAt m i a).1 (insAt m i a).2 != 0), _) = _; rw [hins]; rfl) ⟨rfl, Nat.le_refl _, draws_nil ⟨[(.agg #[.slice ag m.gs.length cg, .slice aa m.arrays.length ca, .slice ac m.chans.length cc, .slice af m.fns.length cf]), (.pointer (some ⟨n, 0, none⟩)), (.bool false), (.int .i64 (i : Nat)), (.int .i64 (((fnOf m i).code.length : Nat) : Int)), (.int .i64 (a : Nat)), vl, (.int .i64 (j : Nat)), z8, z9, z10, z11, (.bool false), z13, (.bool false)], rfl, ?_⟩⟩)
  refine runs_cond false rfl (runs_skip ?_)
  show ARuns E _ _
  refine runs_region (ops_cons rfl (does_inc rfl rfl (by omega) (ops_nil ⟨_, rfl, ?_⟩)))
  exact ⟨(fnOf m i).code.length - (a + 1), by omega, a + 1, _, _, _, _, _, _, _, _, _, rfl, by omega, rfl, k68.trans k89, rfl⟩
end Go.Proofs.Ytnngilpiajgobaa.Shape
