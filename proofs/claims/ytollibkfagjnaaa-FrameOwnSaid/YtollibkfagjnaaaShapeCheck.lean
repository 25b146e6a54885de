/- The shape laws: what a module is told. -/
import Derived.Test.YtollibkfagjnaaaShapeInstr
set_option linter.unusedVariables false
set_option linter.unusedSimpArgs false
set_option maxRecDepth 10000
namespace Go.Proofs.Ytollibkfagjnaaa.Shape
open Go.Proofs.Ytollibkfagjnaaa.AM
def headSpec (f : Fn) : Int := if f.ps.length > 8 ∨ f.rs.length > 4 ∨ f.code.length > 2048 ∨ f.locals > 32 ∨ f.stack > 64 then 74 else if f.locals < 0 ∨ f.stack < 0 then 130 else if f.code.length = 0 then 132 else 0
set_option maxHeartbeats 1000000 in
theorem head_ok {e : List Value} {H : AH TV} {f : Fn} (h : FnAt H e f) : ARuns E (.call 94 [.agg e.toArray] H) fun r => r.v = .int .i64 (headSpec f) ∧ Keeps H r.H := by
  have one := h.one.1
  obtain ⟨vp, vr, vc, rfl, h1, h2, h3⟩ := h
  obtain ⟨ap, cp, ep⟩ := lenU h1
  obtain ⟨ar, cr, er⟩ := lenU h2
  obtain ⟨ac, cc, ec⟩ := lenSC h3
  obtain ⟨n, hn⟩ : ∃ n, Vec.size H = n := ⟨_, rfl⟩
  refine runs_call rfl rfl ?_
  refine seq_region ?_
  refine ops_cons rfl (does_box rfl one hn fun H1 z1 k1 g1 => ops_nil ⟨[.agg (fnCells f vp vr vc).toArray, .pointer (some ⟨n, 0, none⟩), .int .i64 0, undef, undef, undef], rfl, ?_⟩)
  have t1 : ∀ Q : List Value → AH TV → Prop, (∀ L, Q (.bool (decide (f.ps.length > 8 ∨ f.rs.length > 4 ∨ f.code.length > 2048 ∨ f.locals > 32 ∨ f.stack > 64)) :: L) H1) → AOps E [.agg (fnCells f vp vr vc).toArray, .pointer (some ⟨n, 0, none⟩), .int .i64 0, undef, undef, undef] [⟨.faddr 1 (.tmp 1), none, 0⟩, ⟨.load none (.loc 0), none, 0⟩, ⟨.len (.loc 0), none, 0⟩, ⟨.bin .gtr (.loc 0) (.const (.int .i64 8)), none, 0⟩, ⟨.faddr 2 (.tmp 1), (some ((.loc 0), false)), 0⟩, ⟨.load none (.loc 0), (some ((.loc 1), false)), 0⟩, ⟨.len (.loc 0), (some ((.loc 2), false)), 0⟩, ⟨.bin .gtr (.loc 0) (.const (.int .i64 4)), (some ((.loc 3), false)), 0⟩, ⟨.pick (.loc 4) (.const (.bool true)) (.loc 0), none, 0⟩, ⟨.faddr 5 (.tmp 1), (some ((.loc 0), false)), 0⟩, ⟨.load none (.loc 0), (some ((.loc 1), false)), 0⟩, ⟨.len (.loc 0), (some ((.loc 2), false)), 0⟩, ⟨.bin .gtr (.loc 0) (.const (.int .i64 2048)), (some ((.loc 3), false)), 0⟩, ⟨.pick (.loc 4) (.const (.bool true)) (.loc 0), none, 0⟩, ⟨.faddr 3 (.tmp 1), (some ((.loc 0), false)), 0⟩, ⟨.load none (.loc 0), (some ((.loc 1), false)), 0⟩, ⟨.bin .gtr (.loc 0) (.const (.int .i64 32)), (some ((.loc 2), false)), 0⟩, ⟨.pick (.loc 3) (.const (.bool true)) (.loc 0), none, 0⟩, ⟨.faddr 4 (.tmp 1), (some ((.loc 0), false)), 0⟩, ⟨.load none (.loc 0), (some ((.loc 1), false)), 0⟩, ⟨.bin .gtr (.loc 0) (.const (.int .i64 64)), (some ((.loc 2), false)), 0⟩, ⟨.pick (.loc 3) (.const (.bool true)) (.loc 0), none, 0⟩] [] H1 Q := by
    intro Q hQ
    refine ops_cons rfl (does_val rfl ?_)
    refine ops_cons rfl (does_load (v := vp) rfl g1 rfl ?_)
    refine ops_cons rfl (does_val (v := .int .i64 ((f.ps.length : Nat) : Int)) (by rw [ep]; rfl) ?_)
    by_cases c0 : (f.ps.length : Int) > 8
    · refine ops_cons rfl (does_val (v := .bool true) (by show some (Value.bool _, _) = _; first | (simp [c0]; done) | (simp; omega)) ?_)
      refine ops_not rfl (ops_not rfl (ops_not rfl (ops_not rfl (?_))))
      refine ops_cons rfl (does_val rfl ?_)
      refine ops_not rfl (ops_not rfl (ops_not rfl (ops_not rfl (?_))))
      refine ops_cons rfl (does_val rfl ?_)
      refine ops_not rfl (ops_not rfl (ops_not rfl (?_)))
      refine ops_cons rfl (does_val rfl ?_)
      refine ops_not rfl (ops_not rfl (ops_not rfl (?_)))
      refine ops_cons rfl (does_val rfl ?_)
      have hq := hQ
      rw [decide_eq_true (show f.ps.length > 8 ∨ f.rs.length > 4 ∨ f.code.length > 2048 ∨ f.locals > 32 ∨ f.stack > 64 by omega)] at hq
      exact ops_nil (hq _)
    · refine ops_cons rfl (does_val (v := .bool false) (by show some (Value.bool _, _) = _; first | (simp [c0]; done) | (simp; omega)) ?_)
      refine ops_cons rfl (does_val rfl ?_)
      refine ops_cons rfl (does_load (v := vr) rfl g1 rfl ?_)
      refine ops_cons rfl (does_val (v := .int .i64 ((f.rs.length : Nat) : Int)) (by rw [er]; rfl) ?_)
      by_cases c1 : (f.rs.length : Int) > 4
      · refine ops_cons rfl (does_val (v := .bool true) (by show some (Value.bool _, _) = _; first | (simp [c1]; done) | (simp; omega)) ?_)
        refine ops_cons rfl (does_val rfl ?_)
        refine ops_not rfl (ops_not rfl (ops_not rfl (ops_not rfl (?_))))
        refine ops_cons rfl (does_val rfl ?_)
        refine ops_not rfl (ops_not rfl (ops_not rfl (?_)))
        refine ops_cons rfl (does_val rfl ?_)
        refine ops_not rfl (ops_not rfl (ops_not rfl (?_)))
        refine ops_cons rfl (does_val rfl ?_)
        have hq := hQ
        rw [decide_eq_true (show f.ps.length > 8 ∨ f.rs.length > 4 ∨ f.code.length > 2048 ∨ f.locals > 32 ∨ f.stack > 64 by omega)] at hq
        exact ops_nil (hq _)
      · refine ops_cons rfl (does_val (v := .bool false) (by show some (Value.bool _, _) = _; first | (simp [c1]; done) | (simp; omega)) ?_)
        refine ops_cons rfl (does_val rfl ?_)
        refine ops_cons rfl (does_val rfl ?_)
        refine ops_cons rfl (does_load (v := vc) rfl g1 rfl ?_)
        refine ops_cons rfl (does_val (v := .int .i64 ((f.code.length : Nat) : Int)) (by rw [ec]; rfl) ?_)
        by_cases c2 : (f.code.length : Int) > 2048
        · refine ops_cons rfl (does_val (v := .bool true) (by show some (Value.bool _, _) = _; first | (simp [c2]; done) | (simp; omega)) ?_)
          refine ops_cons rfl (does_val rfl ?_)
          refine ops_not rfl (ops_not rfl (ops_not rfl (?_)))
          refine ops_cons rfl (does_val rfl ?_)
          refine ops_not rfl (ops_not rfl (ops_not rfl (?_)))
          refine ops_cons rfl (does_val rfl ?_)
          have hq := hQ
          rw [decide_eq_true (show f.ps.length > 8 ∨ f.rs.length > 4 ∨ f.code.length > 2048 ∨ f.locals > 32 ∨ f.stack > 64 by omega)] at hq
          exact ops_nil (hq _)
        · refine ops_cons rfl (does_val (v := .bool false) (by show some (Value.bool _, _) = _; first | (simp [c2]; done) | (simp; omega)) ?_)
          refine ops_cons rfl (does_val rfl ?_)
          refine ops_cons rfl (does_val rfl ?_)
          refine ops_cons rfl (does_load (v := .int .i64 f.locals) rfl g1 rfl ?_)
          by_cases c3 : f.locals > 32
          · refine ops_cons rfl (does_val (v := .bool true) (by show some (Value.bool _, _) = _; first | (simp [c3]; done) | (simp; omega)) ?_)
            refine ops_cons rfl (does_val rfl ?_)
            refine ops_not rfl (ops_not rfl (ops_not rfl (?_)))
            refine ops_cons rfl (does_val rfl ?_)
            have hq := hQ
            rw [decide_eq_true (show f.ps.length > 8 ∨ f.rs.length > 4 ∨ f.code.length > 2048 ∨ f.locals > 32 ∨ f.stack > 64 by omega)] at hq
            exact ops_nil (hq _)
          · refine ops_cons rfl (does_val (v := .bool false) (by show some (Value.bool _, _) = _; first | (simp [c3]; done) | (simp; omega)) ?_)
            refine ops_cons rfl (does_val rfl ?_)
            refine ops_cons rfl (does_val rfl ?_)
            refine ops_cons rfl (does_load (v := .int .i64 f.stack) rfl g1 rfl ?_)
            by_cases c4 : f.stack > 64
            · refine ops_cons rfl (does_val (v := .bool true) (by show some (Value.bool _, _) = _; first | (simp [c4]; done) | (simp; omega)) ?_)
              refine ops_cons rfl (does_val rfl ?_)
              have hq := hQ
              rw [decide_eq_true (show f.ps.length > 8 ∨ f.rs.length > 4 ∨ f.code.length > 2048 ∨ f.locals > 32 ∨ f.stack > 64 by omega)] at hq
              exact ops_nil (hq _)
            · refine ops_cons rfl (does_val (v := .bool false) (by show some (Value.bool _, _) = _; first | (simp [c4]; done) | (simp; omega)) ?_)
              refine ops_cons rfl (does_val rfl ?_)
              have hq := hQ
              rw [decide_eq_false (show ¬ (f.ps.length > 8 ∨ f.rs.length > 4 ∨ f.code.length > 2048 ∨ f.locals > 32 ∨ f.stack > 64) by omega)] at hq
              exact ops_nil (hq _)
  have t2 : ∀ Q : List Value → AH TV → Prop, (∀ L, Q (.bool (decide (f.locals < 0 ∨ f.stack < 0)) :: L) H1) → AOps E [.agg (fnCells f vp vr vc).toArray, .pointer (some ⟨n, 0, none⟩), .int .i64 0, .bool false, undef, undef] [⟨.faddr 3 (.tmp 1), none, 0⟩, ⟨.load none (.loc 0), none, 0⟩, ⟨.bin .lss (.loc 0) (.const (.int .i64 0)), none, 0⟩, ⟨.faddr 4 (.tmp 1), (some ((.loc 0), false)), 0⟩, ⟨.load none (.loc 0), (some ((.loc 1), false)), 0⟩, ⟨.bin .lss (.loc 0) (.const (.int .i64 0)), (some ((.loc 2), false)), 0⟩, ⟨.pick (.loc 3) (.const (.bool true)) (.loc 0), none, 0⟩] [] H1 Q := by
    intro Q hQ
    refine ops_cons rfl (does_val rfl ?_)
    refine ops_cons rfl (does_load (v := .int .i64 f.locals) rfl g1 rfl ?_)
    by_cases c0 : f.locals < 0
    · refine ops_cons rfl (does_val (v := .bool true) (by show some (Value.bool _, _) = _; first | (simp [c0]; done) | (simp; omega)) ?_)
      refine ops_not rfl (ops_not rfl (ops_not rfl (?_)))
      refine ops_cons rfl (does_val rfl ?_)
      have hq := hQ
      rw [decide_eq_true (show f.locals < 0 ∨ f.stack < 0 by omega)] at hq
      exact ops_nil (hq _)
    · refine ops_cons rfl (does_val (v := .bool false) (by show some (Value.bool _, _) = _; first | (simp [c0]; done) | (simp; omega)) ?_)
      refine ops_cons rfl (does_val rfl ?_)
      refine ops_cons rfl (does_load (v := .int .i64 f.stack) rfl g1 rfl ?_)
      by_cases c1 : f.stack < 0
      · refine ops_cons rfl (does_val (v := .bool true) (by show some (Value.bool _, _) = _; first | (simp [c1]; done) | (simp; omega)) ?_)
        refine ops_cons rfl (does_val rfl ?_)
        have hq := hQ
        rw [decide_eq_true (show f.locals < 0 ∨ f.stack < 0 by omega)] at hq
        exact ops_nil (hq _)
      · refine ops_cons rfl (does_val (v := .bool false) (by show some (Value.bool _, _) = _; first | (simp [c1]; done) | (simp; omega)) ?_)
        refine ops_cons rfl (does_val rfl ?_)
        have hq := hQ
        rw [decide_eq_false (show ¬ (f.locals < 0 ∨ f.stack < 0) by omega)] at hq
        exact ops_nil (hq _)
  refine seq_block (seq_region ?_)
  by_cases a1 : f.ps.length > 8 ∨ f.rs.length > 4 ∨ f.code.length > 2048 ∨ f.locals > 32 ∨ f.stack > 64
  · refine t1 _ fun L => ⟨_, rfl, ?_⟩
    refine runs_cond true (by show some (Value.bool (decide _)) = _; rw [decide_eq_true a1]) ?_
    refine seq_region (ops_nil ⟨_, rfl, ?_⟩)
    refine runs_ret ⟨.inr rfl, _, _, rfl, rfl, ?_, k1⟩
    show Value.int .i64 74 = _
    rw [headSpec, if_pos a1]
  refine t1 _ fun L => ⟨[.agg (fnCells f vp vr vc).toArray, .pointer (some ⟨n, 0, none⟩), .int .i64 0, .bool false, undef, undef], by rw [decide_eq_false a1]; rfl, ?_⟩
  refine runs_cond false rfl ?_
  refine seq_region ?_
  by_cases a2 : f.locals < 0 ∨ f.stack < 0
  · refine t2 _ fun L => ⟨_, rfl, ?_⟩
    refine runs_cond true (by show some (Value.bool (decide _)) = _; rw [decide_eq_true a2]) ?_
    refine seq_region (ops_nil ⟨_, rfl, ?_⟩)
    refine runs_ret ⟨.inr rfl, _, _, rfl, rfl, ?_, k1⟩
    show Value.int .i64 130 = _
    rw [headSpec, if_neg a1, if_pos a2]
  refine t2 _ fun L => ⟨[.agg (fnCells f vp vr vc).toArray, .pointer (some ⟨n, 0, none⟩), .int .i64 0, .bool false, .bool false, undef], by rw [decide_eq_false a2]; rfl, ?_⟩
  refine runs_cond false rfl ?_
  refine seq_region ?_
  refine ops_cons rfl (does_val rfl ?_)
  refine ops_cons rfl (does_load (v := vc) rfl g1 rfl ?_)
  refine ops_cons rfl (does_val (v := .int .i64 ((f.code.length : Nat) : Int)) (by rw [ec]; rfl) ?_)
  by_cases a3 : f.code.length = 0
  · refine ops_cons rfl (does_val (v := .bool true) (by show some (Value.bool (_ == _), _) = _; simp [a3]) (ops_nil ⟨_, rfl, ?_⟩))
    refine runs_cond true rfl ?_
    refine seq_region (ops_nil ⟨_, rfl, ?_⟩)
    refine runs_ret ⟨.inr rfl, _, _, rfl, rfl, ?_, k1⟩
    show Value.int .i64 132 = _
    rw [headSpec, if_neg a1, if_neg a2, if_pos a3]
  · refine ops_cons rfl (does_val (v := .bool false) (by show some (Value.bool (_ == _), _) = _; rw [beq_eq_false_iff_ne.2 (by omega)]) (ops_nil ⟨_, rfl, ?_⟩))
    refine runs_cond false rfl (runs_skip ?_)
    show ARuns E _ _
    refine seq_region (ops_nil ⟨_, rfl, ?_⟩)
    refine runs_ret ⟨.inr rfl, _, _, rfl, rfl, ?_, k1⟩
    show Value.int .i64 0 = _
    rw [headSpec, if_neg a1, if_neg a2, if_neg a3]
def insAt (m : Md) (fi a : Nat) : Int × Int := (fnOf m fi).code.getD a (0, 0)
def errAt (m : Md) (fi a : Nat) : Int :=
  if instrSpec m fi (insAt m fi a).1 (insAt m fi a).2 = 0 ∧ a + 1 = (fnOf m fi).code.length ∧ (insAt m fi a).1 ≠ 43 ∧ (insAt m fi a).1 ≠ 46 then 131 else instrSpec m fi (insAt m fi a).1 (insAt m fi a).2
def manyM (m : Md) : Prop := m.gs.length > 32 ∨ m.arrays.length > 16 ∨ m.chans.length > 16 ∨ m.fns.length > 32
def lenAt (m : Md) (i : Nat) : Int := (m.arrays.getD i (0, 0)).1
def badArr (m : Md) (i : Nat) : Prop := lenAt m i < 1 ∨ lenAt m i > 256
def FnGood (m : Md) (fi : Nat) : Prop := headSpec (fnOf m fi) = 0 ∧ ∀ j, j < (fnOf m fi).code.length → errAt m fi j = 0
def FnBad (m : Md) (fi : Nat) (e a : Int) : Prop := (headSpec (fnOf m fi) ≠ 0 ∧ e = headSpec (fnOf m fi) ∧ a = -1) ∨
  (headSpec (fnOf m fi) = 0 ∧ ∃ i : Nat, i < (fnOf m fi).code.length ∧ errAt m fi i ≠ 0 ∧ (∀ j, j < i → errAt m fi j = 0) ∧ e = errAt m fi i ∧ a = i)
def IsCheck (m : Md) (e f a : Int) : Prop :=
  (manyM m ∧ e = 74 ∧ f = -1 ∧ a = 0) ∨
  (¬ manyM m ∧ ∃ i : Nat, i < m.arrays.length ∧ badArr m i ∧ (∀ j, j < i → ¬ badArr m j) ∧ e = 130 ∧ f = -1 ∧ a = i) ∨
  (¬ manyM m ∧ (∀ j, j < m.arrays.length → ¬ badArr m j) ∧ ∃ fi : Nat, fi < m.fns.length ∧ (∀ j, j < fi → FnGood m j) ∧ FnBad m fi e a ∧ f = fi) ∨
  (¬ manyM m ∧ (∀ j, j < m.arrays.length → ¬ badArr m j) ∧ (∀ j, j < m.fns.length → FnGood m j) ∧ e = 0 ∧ f = 0 ∧ a = 0)
theorem fnBad_notGood {m : Md} {fi : Nat} {e a : Int} (h : FnBad m fi e a) : ¬ FnGood m fi := by
  rintro ⟨g1, g2⟩
  rcases h with ⟨h, _⟩ | ⟨_, i, h1, h2, _⟩
  · exact h g1
  · exact h2 (g2 i h1)
theorem fnBad_one {m : Md} {fi : Nat} {e a e' a' : Int} (h : FnBad m fi e a) (k : FnBad m fi e' a') : e = e' ∧ a = a' := by
  rcases h with ⟨h1, rfl, rfl⟩ | ⟨h0, i, h1, h2, h3, rfl, rfl⟩ <;> rcases k with ⟨k1, rfl, rfl⟩ | ⟨k0, i', k1, k2, k3, rfl, rfl⟩
  · exact ⟨rfl, rfl⟩
  · exact absurd k0 h1
  · exact absurd h0 k1
  · rcases Nat.lt_trichotomy i i' with q | q | q
    · exact absurd (k3 i q) h2
    · subst q; exact ⟨rfl, rfl⟩
    · exact absurd (h3 i' q) k2
theorem isCheck_one {m : Md} {e f a e' f' a' : Int} (h : IsCheck m e f a) (k : IsCheck m e' f' a') : e = e' ∧ f = f' ∧ a = a' := by
  rcases h with ⟨h0, rfl, rfl, rfl⟩ | ⟨h0, i, h1, h2, h3, rfl, rfl, rfl⟩ | ⟨h0, h1, fi, h2, h3, h4, rfl⟩ | ⟨h0, h1, h2, rfl, rfl, rfl⟩ <;>
    rcases k with ⟨k0, rfl, rfl, rfl⟩ | ⟨k0, i', k1, k2, k3, rfl, rfl, rfl⟩ | ⟨k0, k1, fi', k2, k3, k4, rfl⟩ | ⟨k0, k1, k2, rfl, rfl, rfl⟩
  · exact ⟨rfl, rfl, rfl⟩
  · exact absurd h0 k0
  · exact absurd h0 k0
  · exact absurd h0 k0
  · exact absurd k0 h0
  · rcases Nat.lt_trichotomy i i' with q | q | q
    · exact absurd h2 (k3 i q)
    · subst q; exact ⟨rfl, rfl, rfl⟩
    · exact absurd k2 (h3 i' q)
  · exact absurd h2 (k1 i h1)
  · exact absurd h2 (k1 i h1)
  · exact absurd k0 h0
  · exact absurd k2 (h1 i' k1)
  · rcases Nat.lt_trichotomy fi fi' with q | q | q
    · exact absurd (k3 fi q) (fnBad_notGood h4)
    · subst q
      obtain ⟨rfl, rfl⟩ := fnBad_one h4 k4
      exact ⟨rfl, rfl, rfl⟩
    · exact absurd (h3 fi' q) (fnBad_notGood k4)
  · exact absurd (k2 fi h2) (fnBad_notGood h4)
  · exact absurd k0 h0
  · exact absurd k2 (h1 i' k1)
  · exact absurd (h2 fi' k2) (fnBad_notGood k4)
  · exact ⟨rfl, rfl, rfl⟩
theorem runs_loop_block {inR : Bool} {id : Nat} {b : ACode} {T : AT} {H : AH TV} {ds : List Nat} {Q : Res TV → Prop} (I : Nat → AT → AH TV → List Nat → Prop) (n : Nat) (hi : I n T H ds)
    (hb : ∀ n T H ds, I n T H ds → ARuns E (.code inR b T H ds) fun r => match r.e with | .norm => ∃ j, j < n ∧ I j r.T r.H r.ds | _ => afterBlock id Q r) : ARuns E (.code inR (.block id (.loop b)) T H ds) Q :=
  runs_block (runs_loop_measure I hb n T H ds hi)
theorem many_iff {m : Md} : ((m.gs.length : Int) > 32 ∨ (m.arrays.length : Int) > 16 ∨ (m.chans.length : Int) > 16 ∨ (m.fns.length : Int) > 32) ↔ manyM m := by
  unfold manyM; omega
theorem runs_scope_of {inR : Bool} {b : ACode} {T : AT} {H : AH TV} {ds : List Nat} {Q : Res TV → Prop} (hQ : ∀ r, Q r → r.e = .norm ∨ r.e = .ret) (h : ARuns E (.code inR b T H ds) Q) : ARuns E (.code inR (.scope b) T H ds) Q :=
  runs_scope (h.mono fun r hr => by
    obtain ⟨e, T, H, ds, v⟩ := r
    rcases hQ _ hr with h | h
    · simp only at h; subst h; exact hr
    · simp only at h; subst h; exact hr)
theorem seq_label {inR : Bool} {l : Nat} {k : ACode} {T : AT} {H : AH TV} {ds : List Nat} {Q : Res TV → Prop} (h : ARuns E (.code inR k T H ds) Q) : ARuns E (.code inR (.seq (.label l) k) T H ds) Q := runs_seq (runs_done (r := ⟨.norm, T, H, ds, undef⟩) (fun _ => rfl) h)
def Told (m : Md) (H : AH TV) (r : Res TV) : Prop := (r.e = .norm ∨ r.e = .ret) ∧ ∃ H' vs, shut r.H r.ds = some H' ∧ ares r.T H' [.cell 2 (some 3)] = some vs ∧ ∃ e f a, pack vs = .agg #[.int .i64 e, .int .i64 f, .int .i64 a] ∧ IsCheck m e f a ∧ Keeps H H'
set_option maxHeartbeats 4000000 in
theorem scheck_ok {v : Value} {H : AH TV} {m : Md} (h : MdAt H v m) (hf : MdFits m) : ARuns E (.call 60 [v] H) fun r => ∃ e f a, r.v = .agg #[.int .i64 e, .int .i64 f, .int .i64 a] ∧ IsCheck m e f a ∧ Keeps H r.H := by
  have hro : room = 140737488355328 := rfl
  have f1 := hf.arrays
  have f2 := hf.fns
  obtain ⟨vg, va, vc, vf, rfl, h1, h2, h3, h4⟩ := h
  obtain ⟨ag, cg, eg⟩ := lenU h1
  obtain ⟨aa, ca, ea⟩ := lenSA h2
  obtain ⟨ac, cc, ec⟩ := lenU h3
  obtain ⟨af, cf, ef⟩ := h4.len
  obtain ⟨n, hn⟩ : ∃ n, Vec.size H = n := ⟨_, rfl⟩
  refine runs_call rfl rfl ?_
  refine seq_region ?_
  refine ops_cons rfl (does_box (cs := [vg, va, vc, vf]) rfl (by subst eg ea ec ef; rfl) hn fun H1 z1 k1 g0 => ?_)
  refine ops_cons rfl (does_alloc z1 fun H2 z2 k2 gz => ops_nil ⟨[(.agg #[vg, va, vc, vf]), (.pointer (some ⟨n, 0, none⟩)), (.pointer (some ⟨n + 1, 0, none⟩)), undef, undef, undef, undef, undef, undef, undef, undef, undef, undef, undef, undef, undef, undef, undef, undef, undef, undef, undef, undef, undef, undef, undef, undef, undef], rfl, ?_⟩)
  have g1 := k2.some g0
  have k := k1.trans k2
  refine runs_scope_of (fun r hr => hr.1) ?_
  have fin : ∀ (T : AT) (H' : AH TV) (e f a : Int), T[2]? = some (.pointer (some ⟨n + 1, 0, none⟩)) → Vec.get H' (n + 1) = some (.arr [.int .i64 e, .int .i64 f, .int .i64 a] true 0) → IsCheck m e f a → Keeps H H' → ARuns E (.code false (.seq (.region [⟨.load (some 3) (.tmp 2), none, 0⟩, ⟨.store 3 (.tmp 2) (.loc 0), none, 0⟩] []) .ret) T H' []) (Told m H) := by
    intro T H' e f a t2 g hc hk
    refine seq_region ?_
    refine ops_cons rfl (does_load (v := .agg #[.int .i64 e, .int .i64 f, .int .i64 a]) t2 g rfl ?_)
    refine ops_cons rfl (does_store t2 rfl rfl rfl rfl g (Nat.zero_le _) (show 3 ≤ 3 by omega) (ops_nil ⟨_, rfl, ?_⟩))
    exact runs_ret ⟨.inr rfl, _, _, rfl, ares_cell t2 (get_set_same (Vec.get_lt _ _ _ g)) rfl rfl, e, f, a, rfl, hc, hk.set _ (by omega)⟩
  refine ARuns.mono (Q := Told m H) ?_ fun r hr => hr
  have t1 : ∀ Q : List Value → AH TV → Prop, (∀ L, Q (.bool (decide ((m.gs.length : Int) > 32 ∨ (m.arrays.length : Int) > 16 ∨ (m.chans.length : Int) > 16 ∨ (m.fns.length : Int) > 32)) :: L) H2) → AOps E [(.agg #[vg, va, vc, vf]), (.pointer (some ⟨n, 0, none⟩)), (.pointer (some ⟨n + 1, 0, none⟩)), undef, undef, undef, undef, undef, undef, undef, undef, undef, undef, undef, undef, undef, undef, undef, undef, undef, undef, undef, undef, undef, undef, undef, undef, undef] [⟨.faddr 0 (.tmp 1), none, 0⟩, ⟨.load none (.loc 0), none, 0⟩, ⟨.len (.loc 0), none, 0⟩, ⟨.bin .gtr (.loc 0) (.const (.int .i64 32)), none, 0⟩, ⟨.faddr 1 (.tmp 1), (some ((.loc 0), false)), 0⟩, ⟨.load none (.loc 0), (some ((.loc 1), false)), 0⟩, ⟨.len (.loc 0), (some ((.loc 2), false)), 0⟩, ⟨.bin .gtr (.loc 0) (.const (.int .i64 16)), (some ((.loc 3), false)), 0⟩, ⟨.pick (.loc 4) (.const (.bool true)) (.loc 0), none, 0⟩, ⟨.faddr 2 (.tmp 1), (some ((.loc 0), false)), 0⟩, ⟨.load none (.loc 0), (some ((.loc 1), false)), 0⟩, ⟨.len (.loc 0), (some ((.loc 2), false)), 0⟩, ⟨.bin .gtr (.loc 0) (.const (.int .i64 16)), (some ((.loc 3), false)), 0⟩, ⟨.pick (.loc 4) (.const (.bool true)) (.loc 0), none, 0⟩, ⟨.faddr 3 (.tmp 1), (some ((.loc 0), false)), 0⟩, ⟨.load none (.loc 0), (some ((.loc 1), false)), 0⟩, ⟨.len (.loc 0), (some ((.loc 2), false)), 0⟩, ⟨.bin .gtr (.loc 0) (.const (.int .i64 32)), (some ((.loc 3), false)), 0⟩, ⟨.pick (.loc 4) (.const (.bool true)) (.loc 0), none, 0⟩] [] H2 Q := by
    intro Q hQ
    refine ops_cons rfl (does_val rfl ?_)
    refine ops_cons rfl (does_load (v := vg) rfl g1 rfl ?_)
    refine ops_cons rfl (does_val (v := .int .i64 ((m.gs.length : Nat) : Int)) (by rw [eg]; rfl) ?_)
    by_cases c0 : (m.gs.length : Int) > 32
    · refine ops_cons rfl (does_val (v := .bool true) (by show some (Value.bool _, _) = _; first | (simp [c0]; done) | (simp; omega)) ?_)
      refine ops_not rfl (ops_not rfl (ops_not rfl (ops_not rfl (?_))))
      refine ops_cons rfl (does_val rfl ?_)
      refine ops_not rfl (ops_not rfl (ops_not rfl (ops_not rfl (?_))))
      refine ops_cons rfl (does_val rfl ?_)
      refine ops_not rfl (ops_not rfl (ops_not rfl (ops_not rfl (?_))))
      refine ops_cons rfl (does_val rfl ?_)
      have hq := hQ
      rw [decide_eq_true (show (m.gs.length : Int) > 32 ∨ (m.arrays.length : Int) > 16 ∨ (m.chans.length : Int) > 16 ∨ (m.fns.length : Int) > 32 by omega)] at hq
      exact ops_nil (hq _)
    · refine ops_cons rfl (does_val (v := .bool false) (by show some (Value.bool _, _) = _; first | (simp [c0]; done) | (simp; omega)) ?_)
      refine ops_cons rfl (does_val rfl ?_)
      refine ops_cons rfl (does_load (v := va) rfl g1 rfl ?_)
      refine ops_cons rfl (does_val (v := .int .i64 ((m.arrays.length : Nat) : Int)) (by rw [ea]; rfl) ?_)
      by_cases c1 : (m.arrays.length : Int) > 16
      · refine ops_cons rfl (does_val (v := .bool true) (by show some (Value.bool _, _) = _; first | (simp [c1]; done) | (simp; omega)) ?_)
        refine ops_cons rfl (does_val rfl ?_)
        refine ops_not rfl (ops_not rfl (ops_not rfl (ops_not rfl (?_))))
        refine ops_cons rfl (does_val rfl ?_)
        refine ops_not rfl (ops_not rfl (ops_not rfl (ops_not rfl (?_))))
        refine ops_cons rfl (does_val rfl ?_)
        have hq := hQ
        rw [decide_eq_true (show (m.gs.length : Int) > 32 ∨ (m.arrays.length : Int) > 16 ∨ (m.chans.length : Int) > 16 ∨ (m.fns.length : Int) > 32 by omega)] at hq
        exact ops_nil (hq _)
      · refine ops_cons rfl (does_val (v := .bool false) (by show some (Value.bool _, _) = _; first | (simp [c1]; done) | (simp; omega)) ?_)
        refine ops_cons rfl (does_val rfl ?_)
        refine ops_cons rfl (does_val rfl ?_)
        refine ops_cons rfl (does_load (v := vc) rfl g1 rfl ?_)
        refine ops_cons rfl (does_val (v := .int .i64 ((m.chans.length : Nat) : Int)) (by rw [ec]; rfl) ?_)
        by_cases c2 : (m.chans.length : Int) > 16
        · refine ops_cons rfl (does_val (v := .bool true) (by show some (Value.bool _, _) = _; first | (simp [c2]; done) | (simp; omega)) ?_)
          refine ops_cons rfl (does_val rfl ?_)
          refine ops_not rfl (ops_not rfl (ops_not rfl (ops_not rfl (?_))))
          refine ops_cons rfl (does_val rfl ?_)
          have hq := hQ
          rw [decide_eq_true (show (m.gs.length : Int) > 32 ∨ (m.arrays.length : Int) > 16 ∨ (m.chans.length : Int) > 16 ∨ (m.fns.length : Int) > 32 by omega)] at hq
          exact ops_nil (hq _)
        · refine ops_cons rfl (does_val (v := .bool false) (by show some (Value.bool _, _) = _; first | (simp [c2]; done) | (simp; omega)) ?_)
          refine ops_cons rfl (does_val rfl ?_)
          refine ops_cons rfl (does_val rfl ?_)
          refine ops_cons rfl (does_load (v := vf) rfl g1 rfl ?_)
          refine ops_cons rfl (does_val (v := .int .i64 ((m.fns.length : Nat) : Int)) (by rw [ef]; rfl) ?_)
          by_cases c3 : (m.fns.length : Int) > 32
          · refine ops_cons rfl (does_val (v := .bool true) (by show some (Value.bool _, _) = _; first | (simp [c3]; done) | (simp; omega)) ?_)
            refine ops_cons rfl (does_val rfl ?_)
            have hq := hQ
            rw [decide_eq_true (show (m.gs.length : Int) > 32 ∨ (m.arrays.length : Int) > 16 ∨ (m.chans.length : Int) > 16 ∨ (m.fns.length : Int) > 32 by omega)] at hq
            exact ops_nil (hq _)
          · refine ops_cons rfl (does_val (v := .bool false) (by show some (Value.bool _, _) = _; first | (simp [c3]; done) | (simp; omega)) ?_)
            refine ops_cons rfl (does_val rfl ?_)
            have hq := hQ
            rw [decide_eq_false (show ¬ ((m.gs.length : Int) > 32 ∨ (m.arrays.length : Int) > 16 ∨ (m.chans.length : Int) > 16 ∨ (m.fns.length : Int) > 32) by omega)] at hq
            exact ops_nil (hq _)
  refine seq_assoc (seq_region ?_)
  by_cases a1 : (m.gs.length : Int) > 32 ∨ (m.arrays.length : Int) > 16 ∨ (m.chans.length : Int) > 16 ∨ (m.fns.length : Int) > 32
  · refine t1 _ fun L => ⟨_, rfl, ?_⟩
    refine seq_cond true (by show some (Value.bool (decide _)) = _; rw [decide_eq_true a1]) ?_
    refine seq_assoc ?_
    refine seq_region ?_
    refine ops_cons rfl (does_val rfl ?_)
    refine ops_cons rfl (does_store rfl rfl rfl rfl rfl gz (Nat.zero_le _) (show 3 ≤ 3 by omega) (ops_nil ⟨_, rfl, ?_⟩))
    exact seq_ret ⟨.inr rfl, _, _, rfl, ares_cell rfl (get_set_same (Vec.get_lt _ _ _ gz)) rfl rfl, 74, -1, 0, rfl, (.inl ⟨many_iff.1 a1, rfl, rfl, rfl⟩), (k).set _ (by omega)⟩
  have nm : ¬ manyM m := fun hh => a1 (many_iff.2 hh)
  refine t1 _ fun L => ⟨[(.agg #[vg, va, vc, vf]), (.pointer (some ⟨n, 0, none⟩)), (.pointer (some ⟨n + 1, 0, none⟩)), undef, undef, undef, undef, undef, undef, undef, undef, (.bool false), undef, undef, undef, undef, undef, undef, undef, undef, undef, undef, undef, undef, undef, undef, undef, undef], by rw [decide_eq_false a1]; rfl, ?_⟩
  refine seq_cond false rfl (seq_skip ?_)
  clear t1
  refine seq_assoc (seq_region ?_)
  refine ops_cons rfl (does_val rfl ?_)
  refine ops_cons rfl (does_load (v := va) rfl g1 rfl ?_)
  refine ops_cons rfl (does_val (v := .int .i64 ((m.arrays.length : Nat) : Int)) (by rw [ea]; rfl) (ops_nil ⟨[(.agg #[vg, va, vc, vf]), (.pointer (some ⟨n, 0, none⟩)), (.pointer (some ⟨n + 1, 0, none⟩)), undef, undef, undef, undef, undef, undef, undef, undef, (.bool false), va, (.int .i64 ((m.arrays.length : Nat) : Int)), (.int .i64 0), undef, undef, undef, undef, undef, undef, undef, undef, undef, undef, undef, undef, undef], rfl, ?_⟩))
  refine seq_loop (fun q T H' ds => ∃ (i : Nat) (y3 y4 y5 y6 y7 y8 y9 y10 y11 y15 y16 y17 y18 y19 y20 y21 y22 y23 y24 y25 y26 y27 : Value), q = m.arrays.length - i ∧ i ≤ m.arrays.length ∧ (∀ j, j < i → ¬ badArr m j) ∧ T = [(.agg #[vg, va, vc, vf]), (.pointer (some ⟨n, 0, none⟩)), (.pointer (some ⟨n + 1, 0, none⟩)), y3, y4, y5, y6, y7, y8, y9, y10, y11, va, (.int .i64 ((m.arrays.length : Nat) : Int)), (.int .i64 (i : Nat)), y15, y16, y17, y18, y19, y20, y21, y22, y23, y24, y25, y26, y27] ∧ Keeps H2 H' ∧ ds = []) m.arrays.length ⟨0, _, _, _, _, _, _, _, _, _, _, _, _, _, _, _, _, _, _, _, _, _, _, rfl, Nat.zero_le _, fun j hj => absurd hj (Nat.not_lt_zero _), rfl, .refl _, rfl⟩ ?_
  rintro q T H3 ds ⟨i, y3, y4, y5, y6, y7, y8, y9, y10, y11, y15, y16, y17, y18, y19, y20, y21, y22, y23, y24, y25, y26, y27, rfl, hi, hgood, rfl, k23, rfl⟩
  have g3 := k23.some g1
  have gz3 := k23.some gz
  have k3 := k.trans k23
  have s3 := k3.size
  refine seq_region ?_
  by_cases hlt : i < m.arrays.length
  · refine ops_cons rfl (does_val (v := .bool true) (by show some (Value.bool (decide _), _) = _; simp; omega) (ops_nil ⟨[(.agg #[vg, va, vc, vf]), (.pointer (some ⟨n, 0, none⟩)), (.pointer (some ⟨n + 1, 0, none⟩)), y3, y4, y5, y6, y7, y8, y9, y10, y11, va, (.int .i64 ((m.arrays.length : Nat) : Int)), (.int .i64 (i : Nat)), (.bool true), y16, y17, y18, y19, y20, y21, y22, y23, y24, y25, y26, y27], rfl, ?_⟩))
    refine seq_cond true rfl (seq_skip ?_)
    obtain ⟨b1, o1, c1, kk1, w1, q1, e1, ga, p1, s1⟩ := atA (h2.ext k3) hlt
    have hla : (m.arrays[i]).1 = lenAt m i := by simp [lenAt, List.getD, hlt]
    rw [hla] at p1
    generalize (m.arrays[i]).2 = lab at p1
    obtain ⟨n4, hn4⟩ : ∃ n, Vec.size H3 = n := ⟨_, rfl⟩
    refine seq_block (seq_region ?_)
    refine ops_cons rfl (does_iaddr (j := i) (by rw [e1]; rfl) rfl hlt ?_)
    refine ops_cons rfl (does_load (v := .agg #[.int .i64 (lenAt m i), .int .u64 lab]) rfl ga (acells_some p1 s1) ?_)
    refine ops_cons rfl (does_alloc hn4 fun H4 z4 (k4 : Keeps H3 H4) g4 => ?_)
    refine ops_cons rfl (does_store rfl rfl rfl rfl rfl g4 (Nat.zero_le _) (show 2 ≤ 2 by omega) (ops_nil ⟨[(.agg #[vg, va, vc, vf]), (.pointer (some ⟨n, 0, none⟩)), (.pointer (some ⟨n + 1, 0, none⟩)), (.int .i64 (i : Nat)), (.pointer (some ⟨n4, 0, none⟩)), y5, y6, y7, y8, y9, y10, y11, va, (.int .i64 ((m.arrays.length : Nat) : Int)), (.int .i64 (i : Nat)), (.bool true), y16, y17, y18, y19, y20, y21, y22, y23, y24, y25, y26, y27], rfl, ?_⟩))
    obtain ⟨H5, hH5⟩ : ∃ H5, Vec.set H4 n4 (.arr [.int .i64 (lenAt m i), .int .u64 lab] true 0) = H5 := ⟨_, rfl⟩
    have g5 : Vec.get H5 n4 = some (.arr [.int .i64 (lenAt m i), .int .u64 lab] true 0) := by rw [← hH5]; exact get_set_same (by omega)
    have k35 : Keeps H3 H5 := by rw [← hH5]; exact k4.set _ (by omega)
    show ARuns E (.code false _ _ (Vec.set H4 n4 (.arr [.int .i64 (lenAt m i), .int .u64 lab] true 0)) []) _
    rw [hH5]
    clear hH5
    have gz5 := k35.some gz3
    have k5 := k3.trans k35
    have t2 : ∀ Q : List Value → AH TV → Prop, (∀ L, Q (.bool (decide (lenAt m i < 1 ∨ lenAt m i > 256)) :: L) H5) → AOps E [(.agg #[vg, va, vc, vf]), (.pointer (some ⟨n, 0, none⟩)), (.pointer (some ⟨n + 1, 0, none⟩)), (.int .i64 (i : Nat)), (.pointer (some ⟨n4, 0, none⟩)), y5, y6, y7, y8, y9, y10, y11, va, (.int .i64 ((m.arrays.length : Nat) : Int)), (.int .i64 (i : Nat)), (.bool true), y16, y17, y18, y19, y20, y21, y22, y23, y24, y25, y26, y27] [⟨.faddr 0 (.tmp 4), none, 0⟩, ⟨.load none (.loc 0), none, 0⟩, ⟨.bin .lss (.loc 0) (.const (.int .i64 1)), none, 0⟩, ⟨.faddr 0 (.tmp 4), (some ((.loc 0), false)), 0⟩, ⟨.load none (.loc 0), (some ((.loc 1), false)), 0⟩, ⟨.bin .gtr (.loc 0) (.const (.int .i64 256)), (some ((.loc 2), false)), 0⟩, ⟨.pick (.loc 3) (.const (.bool true)) (.loc 0), none, 0⟩] [] H5 Q := by
      intro Q hQ
      refine ops_cons rfl (does_val rfl ?_)
      refine ops_cons rfl (does_load (v := .int .i64 (lenAt m i)) rfl g5 rfl ?_)
      by_cases c0 : lenAt m i < 1
      · refine ops_cons rfl (does_val (v := .bool true) (by show some (Value.bool _, _) = _; first | (simp [c0]; done) | (simp; omega)) ?_)
        refine ops_not rfl (ops_not rfl (ops_not rfl (?_)))
        refine ops_cons rfl (does_val rfl ?_)
        have hq := hQ
        rw [decide_eq_true (show lenAt m i < 1 ∨ lenAt m i > 256 by omega)] at hq
        exact ops_nil (hq _)
      · refine ops_cons rfl (does_val (v := .bool false) (by show some (Value.bool _, _) = _; first | (simp [c0]; done) | (simp; omega)) ?_)
        refine ops_cons rfl (does_val rfl ?_)
        refine ops_cons rfl (does_load (v := .int .i64 (lenAt m i)) rfl g5 rfl ?_)
        by_cases c1 : lenAt m i > 256
        · refine ops_cons rfl (does_val (v := .bool true) (by show some (Value.bool _, _) = _; first | (simp [c1]; done) | (simp; omega)) ?_)
          refine ops_cons rfl (does_val rfl ?_)
          have hq := hQ
          rw [decide_eq_true (show lenAt m i < 1 ∨ lenAt m i > 256 by omega)] at hq
          exact ops_nil (hq _)
        · refine ops_cons rfl (does_val (v := .bool false) (by show some (Value.bool _, _) = _; first | (simp [c1]; done) | (simp; omega)) ?_)
          refine ops_cons rfl (does_val rfl ?_)
          have hq := hQ
          rw [decide_eq_false (show ¬ (lenAt m i < 1 ∨ lenAt m i > 256) by omega)] at hq
          exact ops_nil (hq _)
    refine seq_region ?_
    by_cases a2 : lenAt m i < 1 ∨ lenAt m i > 256
    · refine t2 _ fun L => ⟨_, rfl, ?_⟩
      refine runs_cond true (by show some (Value.bool (decide _)) = _; rw [decide_eq_true a2]) ?_
      refine seq_region ?_
      refine ops_cons rfl (does_val rfl ?_)
      refine ops_cons rfl (does_store rfl rfl rfl rfl rfl gz5 (Nat.zero_le _) (show 3 ≤ 3 by omega) (ops_nil ⟨_, rfl, ?_⟩))
      exact runs_ret ⟨.inr rfl, _, _, rfl, ares_cell rfl (get_set_same (Vec.get_lt _ _ _ gz5)) rfl rfl, 130, -1, (i : Int), rfl, (.inr (.inl ⟨nm, i, hlt, a2, hgood, rfl, rfl, rfl⟩)), (k5).set _ (by omega)⟩
    refine t2 _ fun L => ⟨[(.agg #[vg, va, vc, vf]), (.pointer (some ⟨n, 0, none⟩)), (.pointer (some ⟨n + 1, 0, none⟩)), (.int .i64 (i : Nat)), (.pointer (some ⟨n4, 0, none⟩)), y5, y6, y7, y8, y9, y10, y11, va, (.int .i64 ((m.arrays.length : Nat) : Int)), (.int .i64 (i : Nat)), (.bool true), (.bool false), y17, y18, y19, y20, y21, y22, y23, y24, y25, y26, y27], by rw [decide_eq_false a2]; rfl, ?_⟩
    refine runs_cond false rfl (runs_skip ?_)
    show ARuns E _ _
    refine runs_region (ops_cons rfl (does_inc rfl rfl (by omega) (ops_nil ⟨_, rfl, ?_⟩)))
    refine ⟨m.arrays.length - (i + 1), by omega, i + 1, _, _, _, _, _, _, _, _, _, _, _, _, _, _, _, _, _, _, _, _, _, _, rfl, by omega, fun j hj => ?_, rfl, k23.trans k35, rfl⟩
    by_cases hji : j = i
    · subst hji; exact a2
    · exact hgood j (by omega)
  refine ops_cons rfl (does_val (v := .bool false) (by show some (Value.bool (decide _), _) = _; simp; omega) (ops_nil ⟨[(.agg #[vg, va, vc, vf]), (.pointer (some ⟨n, 0, none⟩)), (.pointer (some ⟨n + 1, 0, none⟩)), y3, y4, y5, y6, y7, y8, y9, y10, y11, va, (.int .i64 ((m.arrays.length : Nat) : Int)), (.int .i64 (i : Nat)), (.bool false), y16, y17, y18, y19, y20, y21, y22, y23, y24, y25, y26, y27], rfl, ?_⟩))
  refine seq_cond false rfl (seq_exit ?_)
  show ARuns E _ _
  have hi' : i = m.arrays.length := by omega
  subst hi'
  have ga : ∀ j, j < m.arrays.length → ¬ badArr m j := hgood
  refine seq_label ?_
  refine seq_assoc (seq_region ?_)
  refine ops_cons rfl (does_val rfl ?_)
  refine ops_cons rfl (does_load (v := vf) rfl g3 rfl ?_)
  refine ops_cons rfl (does_val (v := .int .i64 ((m.fns.length : Nat) : Int)) (by rw [ef]; rfl) (ops_nil ⟨[(.agg #[vg, va, vc, vf]), (.pointer (some ⟨n, 0, none⟩)), (.pointer (some ⟨n + 1, 0, none⟩)), y3, y4, y5, y6, y7, y8, y9, y10, y11, va, (.int .i64 ((m.arrays.length : Nat) : Int)), (.int .i64 ((m.arrays.length : Nat) : Int)), (.bool false), y16, vf, (.int .i64 ((m.fns.length : Nat) : Int)), (.int .i64 0), y20, y21, y22, y23, y24, y25, y26, y27], rfl, ?_⟩))
  refine seq_loop (fun q T H' ds => ∃ (i : Nat) (y3 y4 y5 y6 y7 y8 y9 y10 y11 y12 y13 y14 y15 y16 y20 y21 y22 y23 y24 y25 y26 y27 : Value), q = m.fns.length - i ∧ i ≤ m.fns.length ∧ (∀ j, j < i → FnGood m j) ∧ T = [(.agg #[vg, va, vc, vf]), (.pointer (some ⟨n, 0, none⟩)), (.pointer (some ⟨n + 1, 0, none⟩)), y3, y4, y5, y6, y7, y8, y9, y10, y11, y12, y13, y14, y15, y16, vf, (.int .i64 ((m.fns.length : Nat) : Int)), (.int .i64 (i : Nat)), y20, y21, y22, y23, y24, y25, y26, y27] ∧ Keeps H3 H' ∧ ds = []) m.fns.length ⟨0, _, _, _, _, _, _, _, _, _, _, _, _, _, _, _, _, _, _, _, _, _, _, rfl, Nat.zero_le _, fun j hj => absurd hj (Nat.not_lt_zero _), rfl, .refl _, rfl⟩ ?_
  rintro q T H6 ds ⟨i, y3, y4, y5, y6, y7, y8, y9, y10, y11, y12, y13, y14, y15, y16, y20, y21, y22, y23, y24, y25, y26, y27, rfl, hi, hfg, rfl, k36, rfl⟩
  have g6 := k36.some g3
  have gz6 := k36.some gz3
  have k6 := k3.trans k36
  refine seq_region ?_
  by_cases hlt : i < m.fns.length
  case neg =>
    refine ops_cons rfl (does_val (v := .bool false) (by show some (Value.bool (decide _), _) = _; simp; omega) (ops_nil ⟨[(.agg #[vg, va, vc, vf]), (.pointer (some ⟨n, 0, none⟩)), (.pointer (some ⟨n + 1, 0, none⟩)), y3, y4, y5, y6, y7, y8, y9, y10, y11, y12, y13, y14, y15, y16, vf, (.int .i64 ((m.fns.length : Nat) : Int)), (.int .i64 (i : Nat)), (.bool false), y21, y22, y23, y24, y25, y26, y27], rfl, ?_⟩))
    refine seq_cond false rfl (seq_exit ?_)
    have hi' : i = m.fns.length := by omega
    subst hi'
    exact fin _ _ _ _ _ rfl gz6 (.inr (.inr (.inr ⟨nm, ga, hfg, rfl, rfl, rfl⟩))) k6
  refine ops_cons rfl (does_val (v := .bool true) (by show some (Value.bool (decide _), _) = _; simp; omega) (ops_nil ⟨[(.agg #[vg, va, vc, vf]), (.pointer (some ⟨n, 0, none⟩)), (.pointer (some ⟨n + 1, 0, none⟩)), y3, y4, y5, y6, y7, y8, y9, y10, y11, y12, y13, y14, y15, y16, vf, (.int .i64 ((m.fns.length : Nat) : Int)), (.int .i64 (i : Nat)), (.bool true), y21, y22, y23, y24, y25, y26, y27], rfl, ?_⟩))
  refine seq_cond true rfl (seq_skip ?_)
  obtain ⟨b, off, ce, blk, w, lo, vp, vr, vcd, e1, g2, p, hb, r1, r2, r3⟩ := fn_at (h4.ext k6) hlt
  obtain ⟨ap, cp, ep⟩ := lenU r1
  obtain ⟨ar, cr, er⟩ := lenU r2
  obtain ⟨ax, cx, ex⟩ := lenSC r3
  have hfit := hf.each _ (List.getElem_mem hlt)
  rw [← fnOf_at hlt] at hfit
  have hfit3 := hfit.2.2
  rw [hro] at hfit3
  obtain ⟨n7, hn7⟩ : ∃ n, Vec.size H6 = n := ⟨_, rfl⟩
  have s6 := k6.size
  refine seq_block (seq_region ?_)
  refine ops_cons rfl (does_iaddr (j := i) (by rw [e1]; rfl) rfl hlt ?_)
  refine ops_cons rfl (does_load (v := .agg (fnCells (fnOf m i) vp vr vcd).toArray) rfl g2 (acells_some p hb) ?_)
  refine ops_cons rfl (does_alloc hn7 fun H7 z7 (k67 : Keeps H6 H7) g7 => ?_)
  refine ops_cons rfl (does_store rfl rfl rfl rfl (by rw [ep, er, ex]; rfl) g7 (Nat.zero_le _) (show 6 ≤ 6 by omega) (ops_nil ⟨[(.agg #[vg, va, vc, vf]), (.pointer (some ⟨n, 0, none⟩)), (.pointer (some ⟨n + 1, 0, none⟩)), y3, y4, (.int .i64 (i : Nat)), (.pointer (some ⟨n7, 0, none⟩)), y7, y8, y9, y10, y11, y12, y13, y14, y15, y16, vf, (.int .i64 ((m.fns.length : Nat) : Int)), (.int .i64 (i : Nat)), (.bool true), y21, y22, y23, y24, y25, y26, y27], rfl, ?_⟩))
  obtain ⟨H8, hH8⟩ : ∃ H8, Vec.set H7 n7 (.arr (fnCells (fnOf m i) vp vr vcd) true 0) = H8 := ⟨_, rfl⟩
  have g8 : Vec.get H8 n7 = some (.arr (fnCells (fnOf m i) vp vr vcd) true 0) := by rw [← hH8]; exact get_set_same (by omega)
  have k68 : Keeps H6 H8 := by rw [← hH8]; exact k67.set _ (by omega)
  show ARuns E (.code false _ _ (Vec.set H7 n7 (.arr (fnCells (fnOf m i) vp vr vcd) true 0)) []) _
  rw [hH8]
  clear hH8
  refine seq_assoc (seq_region ?_)
  refine ops_cons rfl (does_load (v := .agg (fnCells (fnOf m i) vp vr vcd).toArray) rfl g8 rfl ?_)
  refine ops_cons rfl (does_call rfl rfl ((head_ok (f := fnOf m i) ⟨vp, vr, vcd, rfl, r1.ext k68, r2.ext k68, r3.ext k68⟩).mono ?_))
  rintro ⟨e9, T9, H9, ds9, v9⟩ ⟨rfl, k89⟩
  simp only at k89
  refine ops_nil ⟨[(.agg #[vg, va, vc, vf]), (.pointer (some ⟨n, 0, none⟩)), (.pointer (some ⟨n + 1, 0, none⟩)), y3, y4, (.int .i64 (i : Nat)), (.pointer (some ⟨n7, 0, none⟩)), (.int .i64 (headSpec (fnOf m i))), y8, y9, y10, y11, y12, y13, y14, y15, y16, vf, (.int .i64 ((m.fns.length : Nat) : Int)), (.int .i64 (i : Nat)), (.bool true), y21, y22, y23, y24, y25, y26, y27], rfl, ?_⟩
  have k69 := k68.trans k89
  have k9 := k6.trans k69
  have g9 := k89.some g8
  have gz9 := k69.some gz6
  have gm9 := k69.some g6
  refine seq_assoc (seq_region ?_)
  by_cases a3 : headSpec (fnOf m i) = 0
  case neg =>
    refine ops_cons rfl (does_val (v := .bool true) (by show some (Value.bool (_ != _), _) = _; simp [a3]) (ops_nil ⟨[(.agg #[vg, va, vc, vf]), (.pointer (some ⟨n, 0, none⟩)), (.pointer (some ⟨n + 1, 0, none⟩)), y3, y4, (.int .i64 (i : Nat)), (.pointer (some ⟨n7, 0, none⟩)), (.int .i64 (headSpec (fnOf m i))), y8, y9, y10, y11, y12, y13, y14, y15, y16, vf, (.int .i64 ((m.fns.length : Nat) : Int)), (.int .i64 (i : Nat)), (.bool true), (.bool true), y22, y23, y24, y25, y26, y27], rfl, ?_⟩))
    refine seq_cond true rfl ?_
    refine seq_assoc ?_
    refine seq_region ?_
    refine ops_cons rfl (does_val rfl ?_)
    refine ops_cons rfl (does_store rfl rfl rfl rfl rfl gz9 (Nat.zero_le _) (show 3 ≤ 3 by omega) (ops_nil ⟨_, rfl, ?_⟩))
    refine seq_exit ?_
    exact fin _ _ _ _ _ rfl (get_set_same (Vec.get_lt _ _ _ gz9)) (.inr (.inr (.inl ⟨nm, ga, i, hlt, hfg, .inl ⟨a3, rfl, rfl⟩, rfl⟩))) (k9.set _ (by omega))
  refine ops_cons rfl (does_val (v := .bool false) (by show some (Value.bool (_ != _), _) = _; rw [a3]; rfl) (ops_nil ⟨[(.agg #[vg, va, vc, vf]), (.pointer (some ⟨n, 0, none⟩)), (.pointer (some ⟨n + 1, 0, none⟩)), y3, y4, (.int .i64 (i : Nat)), (.pointer (some ⟨n7, 0, none⟩)), (.int .i64 (headSpec (fnOf m i))), y8, y9, y10, y11, y12, y13, y14, y15, y16, vf, (.int .i64 ((m.fns.length : Nat) : Int)), (.int .i64 (i : Nat)), (.bool true), (.bool false), y22, y23, y24, y25, y26, y27], rfl, ?_⟩))
  refine seq_cond false rfl (seq_skip ?_)
  refine seq_region ?_
  refine ops_cons rfl (does_val rfl ?_)
  refine ops_cons rfl (does_load (v := vcd) rfl g9 rfl ?_)
  refine ops_cons rfl (does_val (v := .int .i64 (((fnOf m i).code.length : Nat) : Int)) (by rw [ex]; rfl) (ops_nil ⟨[(.agg #[vg, va, vc, vf]), (.pointer (some ⟨n, 0, none⟩)), (.pointer (some ⟨n + 1, 0, none⟩)), y3, y4, (.int .i64 (i : Nat)), (.pointer (some ⟨n7, 0, none⟩)), (.int .i64 (headSpec (fnOf m i))), y8, y9, y10, y11, y12, y13, y14, y15, y16, vf, (.int .i64 ((m.fns.length : Nat) : Int)), (.int .i64 (i : Nat)), (.bool true), (.bool false), vcd, (.int .i64 (((fnOf m i).code.length : Nat) : Int)), (.int .i64 0), y25, y26, y27], rfl, ?_⟩))
  refine runs_loop_block (fun q T H' ds => ∃ (j : Nat) (x3 x4 x7 x8 x9 x10 x11 x12 x13 x14 x15 x16 x20 x21 x25 x26 x27 : Value), q = (fnOf m i).code.length - j ∧ j ≤ (fnOf m i).code.length ∧ (∀ a, a < j → errAt m i a = 0) ∧ T = [(.agg #[vg, va, vc, vf]), (.pointer (some ⟨n, 0, none⟩)), (.pointer (some ⟨n + 1, 0, none⟩)), x3, x4, (.int .i64 (i : Nat)), (.pointer (some ⟨n7, 0, none⟩)), x7, x8, x9, x10, x11, x12, x13, x14, x15, x16, vf, (.int .i64 ((m.fns.length : Nat) : Int)), (.int .i64 (i : Nat)), x20, x21, vcd, (.int .i64 (((fnOf m i).code.length : Nat) : Int)), (.int .i64 (j : Nat)), x25, x26, x27] ∧ Keeps H9 H' ∧ ds = []) (fnOf m i).code.length ⟨0, _, _, _, _, _, _, _, _, _, _, _, _, _, _, _, _, _, rfl, Nat.zero_le _, fun j hj => absurd hj (Nat.not_lt_zero _), rfl, .refl _, rfl⟩ ?_
  rintro q T H10 ds ⟨j, x3, x4, x7, x8, x9, x10, x11, x12, x13, x14, x15, x16, x20, x21, x25, x26, x27, rfl, hj, heg, rfl, k910, rfl⟩
  have g10 := k910.some g9
  have gz10 := k910.some gz9
  have gm10 := k910.some gm9
  have k10 := k9.trans k910
  refine seq_region ?_
  by_cases hjl : j < (fnOf m i).code.length
  case neg =>
    refine ops_cons rfl (does_val (v := .bool false) (by show some (Value.bool (decide _), _) = _; simp; omega) (ops_nil ⟨[(.agg #[vg, va, vc, vf]), (.pointer (some ⟨n, 0, none⟩)), (.pointer (some ⟨n + 1, 0, none⟩)), x3, x4, (.int .i64 (i : Nat)), (.pointer (some ⟨n7, 0, none⟩)), x7, x8, x9, x10, x11, x12, x13, x14, x15, x16, vf, (.int .i64 ((m.fns.length : Nat) : Int)), (.int .i64 (i : Nat)), x20, x21, vcd, (.int .i64 (((fnOf m i).code.length : Nat) : Int)), (.int .i64 (j : Nat)), (.bool false), x26, x27], rfl, ?_⟩))
    refine seq_cond false rfl (seq_exit ?_)
    show ARuns E _ _
    have hj' : j = (fnOf m i).code.length := by omega
    subst hj'
    refine runs_region (ops_cons rfl (does_inc rfl rfl (by omega) (ops_nil ⟨_, rfl, ?_⟩)))
    refine ⟨m.fns.length - (i + 1), by omega, i + 1, _, _, _, _, _, _, _, _, _, _, _, _, _, _, _, _, _, _, _, _, _, _, rfl, by omega, fun a ha => ?_, rfl, (k36.trans k69).trans k910, rfl⟩
    by_cases hai : a = i
    · subst hai; exact ⟨a3, heg⟩
    · exact hfg a (by omega)
  refine ops_cons rfl (does_val (v := .bool true) (by show some (Value.bool (decide _), _) = _; simp; omega) (ops_nil ⟨[(.agg #[vg, va, vc, vf]), (.pointer (some ⟨n, 0, none⟩)), (.pointer (some ⟨n + 1, 0, none⟩)), x3, x4, (.int .i64 (i : Nat)), (.pointer (some ⟨n7, 0, none⟩)), x7, x8, x9, x10, x11, x12, x13, x14, x15, x16, vf, (.int .i64 ((m.fns.length : Nat) : Int)), (.int .i64 (i : Nat)), x20, x21, vcd, (.int .i64 (((fnOf m i).code.length : Nat) : Int)), (.int .i64 (j : Nat)), (.bool true), x26, x27], rfl, ?_⟩))
  refine seq_cond true rfl (seq_skip ?_)
  have hia : (fnOf m i).code[j] = insAt m i j := by simp [insAt, List.getD, hjl]
  obtain ⟨b6, o6, c6, kk6, w6, l6, e6, ga6, p6, s6'⟩ := atC (r3.ext (k69.trans k910)) hjl
  rw [hia] at p6
  obtain ⟨n11, hn11⟩ : ∃ n, Vec.size H10 = n := ⟨_, rfl⟩
  have s10 := k10.size
  refine seq_block (seq_region ?_)
  refine ops_cons rfl (does_iaddr (j := j) (by rw [e6]; rfl) rfl hjl ?_)
  refine ops_cons rfl (does_load (v := .agg #[.int .i64 (insAt m i j).1, .int .i64 (insAt m i j).2]) rfl ga6 (acells_some p6 s6') ?_)
  refine ops_cons rfl (does_alloc hn11 fun H11 z11 (k1011 : Keeps H10 H11) g11 => ?_)
  refine ops_cons rfl (does_store rfl rfl rfl rfl rfl g11 (Nat.zero_le _) (show 2 ≤ 2 by omega) (ops_nil ⟨[(.agg #[vg, va, vc, vf]), (.pointer (some ⟨n, 0, none⟩)), (.pointer (some ⟨n + 1, 0, none⟩)), x3, x4, (.int .i64 (i : Nat)), (.pointer (some ⟨n7, 0, none⟩)), x7, (.int .i64 (j : Nat)), (.pointer (some ⟨n11, 0, none⟩)), x10, x11, x12, x13, x14, x15, x16, vf, (.int .i64 ((m.fns.length : Nat) : Int)), (.int .i64 (i : Nat)), x20, x21, vcd, (.int .i64 (((fnOf m i).code.length : Nat) : Int)), (.int .i64 (j : Nat)), (.bool true), x26, x27], rfl, ?_⟩))
  obtain ⟨H12, hH12⟩ : ∃ H12, Vec.set H11 n11 (.arr [.int .i64 (insAt m i j).1, .int .i64 (insAt m i j).2] true 0) = H12 := ⟨_, rfl⟩
  have g12 : Vec.get H12 n11 = some (.arr [.int .i64 (insAt m i j).1, .int .i64 (insAt m i j).2] true 0) := by rw [← hH12]; exact get_set_same (by omega)
  have k1012 : Keeps H10 H12 := by rw [← hH12]; exact k1011.set _ (by omega)
  show ARuns E (.code false _ _ (Vec.set H11 n11 (.arr [.int .i64 (insAt m i j).1, .int .i64 (insAt m i j).2] true 0)) []) _
  rw [hH12]
  clear hH12
  have k12 := k10.trans k1012
  have gm12 := k1012.some gm10
  have hm12 : MdAt H12 (.agg #[vg, va, vc, vf]) m := ⟨_, _, _, _, rfl, h1.ext k12, h2.ext k12, h3.ext k12, h4.ext k12⟩
  refine seq_region ?_
  refine ops_cons rfl (does_load (v := (.agg #[vg, va, vc, vf])) rfl gm12 rfl ?_)
  refine ops_cons rfl (does_load (v := .agg #[.int .i64 (insAt m i j).1, .int .i64 (insAt m i j).2]) rfl g12 rfl ?_)
  refine ops_cons rfl (does_call rfl rfl ((sinstr_ok hm12 hf).mono ?_))
  rintro ⟨e13, T13, H13, ds13, v13⟩ ⟨rfl, k1213⟩
  simp only at k1213
  refine ops_nil ⟨[(.agg #[vg, va, vc, vf]), (.pointer (some ⟨n, 0, none⟩)), (.pointer (some ⟨n + 1, 0, none⟩)), x3, x4, (.int .i64 (i : Nat)), (.pointer (some ⟨n7, 0, none⟩)), x7, (.int .i64 (j : Nat)), (.pointer (some ⟨n11, 0, none⟩)), (.int .i64 (instrSpec m (i : Nat) (insAt m i j).1 (insAt m i j).2)), x11, x12, x13, x14, x15, x16, vf, (.int .i64 ((m.fns.length : Nat) : Int)), (.int .i64 (i : Nat)), x20, x21, vcd, (.int .i64 (((fnOf m i).code.length : Nat) : Int)), (.int .i64 (j : Nat)), (.bool true), x26, x27], rfl, ?_⟩
  have k1013 := k1012.trans k1213
  have k13 := k12.trans k1213
  have g13 := k1213.some g12
  have gz13 := k1013.some gz10
  have gf13 := k1013.some g10
  have t5 : ∀ Q : List Value → AH TV → Prop, (∀ L, Q (.bool (decide (instrSpec m (i : Nat) (insAt m i j).1 (insAt m i j).2 = 0 ∧ (j : Int) = ((fnOf m i).code.length : Int) - 1 ∧ (insAt m i j).1 ≠ 43 ∧ (insAt m i j).1 ≠ 46)) :: L) H13) → AOps E [(.agg #[vg, va, vc, vf]), (.pointer (some ⟨n, 0, none⟩)), (.pointer (some ⟨n + 1, 0, none⟩)), x3, x4, (.int .i64 (i : Nat)), (.pointer (some ⟨n7, 0, none⟩)), x7, (.int .i64 (j : Nat)), (.pointer (some ⟨n11, 0, none⟩)), (.int .i64 (instrSpec m (i : Nat) (insAt m i j).1 (insAt m i j).2)), x11, x12, x13, x14, x15, x16, vf, (.int .i64 ((m.fns.length : Nat) : Int)), (.int .i64 (i : Nat)), x20, x21, vcd, (.int .i64 (((fnOf m i).code.length : Nat) : Int)), (.int .i64 (j : Nat)), (.bool true), x26, x27] [⟨.bin .eql (.tmp 10) (.const (.int .i64 0)), none, 0⟩, ⟨.mov (.tmp 8), (some ((.loc 0), true)), 0⟩, ⟨.faddr 5 (.tmp 6), (some ((.loc 1), true)), 0⟩, ⟨.load none (.loc 0), (some ((.loc 2), true)), 0⟩, ⟨.len (.loc 0), (some ((.loc 3), true)), 0⟩, ⟨.bin .sub (.loc 0) (.const (.int .i64 1)), (some ((.loc 4), true)), 0⟩, ⟨.bin .eql (.loc 4) (.loc 0), (some ((.loc 5), true)), 0⟩, ⟨.pick (.loc 6) (.loc 0) (.const (.bool false)), none, 0⟩, ⟨.faddr 0 (.tmp 9), (some ((.loc 0), true)), 0⟩, ⟨.load none (.loc 0), (some ((.loc 1), true)), 0⟩, ⟨.bin .neq (.loc 0) (.const (.int .i64 43)), (some ((.loc 2), true)), 0⟩, ⟨.pick (.loc 3) (.loc 0) (.const (.bool false)), none, 0⟩, ⟨.faddr 0 (.tmp 9), (some ((.loc 0), true)), 0⟩, ⟨.load none (.loc 0), (some ((.loc 1), true)), 0⟩, ⟨.bin .neq (.loc 0) (.const (.int .i64 46)), (some ((.loc 2), true)), 0⟩, ⟨.pick (.loc 3) (.loc 0) (.const (.bool false)), none, 0⟩] [] H13 Q := by
    intro Q hQ
    by_cases c0 : instrSpec m (i : Nat) (insAt m i j).1 (insAt m i j).2 = 0
    · refine ops_cons rfl (does_val (v := .bool true) (by show some (Value.bool _, _) = _; first | (simp [c0]; done) | (simp; omega)) ?_)
      refine ops_cons rfl (does_val rfl ?_)
      refine ops_cons rfl (does_val rfl ?_)
      refine ops_cons rfl (does_load (v := vcd) rfl gf13 rfl ?_)
      refine ops_cons rfl (does_val (v := .int .i64 (((fnOf m i).code.length : Nat) : Int)) (by rw [ex]; rfl) ?_)
      refine ops_cons rfl (does_val (v := .int .i64 (((fnOf m i).code.length : Int) - 1)) (by show some (Value.int .i64 (aw .i64 (((fnOf m i).code.length : Int) - 1)), _) = _; rw [aw64 (by omega) (by omega)]) ?_)
      by_cases c1 : (j : Int) = ((fnOf m i).code.length : Int) - 1
      · refine ops_cons rfl (does_val (v := .bool true) (by show some (Value.bool _, _) = _; first | (simp [c1]; done) | (simp; omega)) ?_)
        refine ops_cons rfl (does_val rfl ?_)
        refine ops_cons rfl (does_val rfl ?_)
        refine ops_cons rfl (does_load (v := .int .i64 (insAt m i j).1) rfl g13 rfl ?_)
        by_cases c2 : (insAt m i j).1 ≠ 43
        · refine ops_cons rfl (does_val (v := .bool true) (by show some (Value.bool _, _) = _; first | (simp [c2]; done) | (simp; omega)) ?_)
          refine ops_cons rfl (does_val rfl ?_)
          refine ops_cons rfl (does_val rfl ?_)
          refine ops_cons rfl (does_load (v := .int .i64 (insAt m i j).1) rfl g13 rfl ?_)
          by_cases c3 : (insAt m i j).1 ≠ 46
          · refine ops_cons rfl (does_val (v := .bool true) (by show some (Value.bool _, _) = _; first | (simp [c3]; done) | (simp; omega)) ?_)
            refine ops_cons rfl (does_val rfl ?_)
            have hq := hQ
            rw [decide_eq_true (show instrSpec m (i : Nat) (insAt m i j).1 (insAt m i j).2 = 0 ∧ (j : Int) = ((fnOf m i).code.length : Int) - 1 ∧ (insAt m i j).1 ≠ 43 ∧ (insAt m i j).1 ≠ 46 by omega)] at hq
            exact ops_nil (hq _)
          · refine ops_cons rfl (does_val (v := .bool false) (by show some (Value.bool _, _) = _; first | (simp [c3]; done) | (simp; omega)) ?_)
            refine ops_cons rfl (does_val rfl ?_)
            have hq := hQ
            rw [decide_eq_false (show ¬ (instrSpec m (i : Nat) (insAt m i j).1 (insAt m i j).2 = 0 ∧ (j : Int) = ((fnOf m i).code.length : Int) - 1 ∧ (insAt m i j).1 ≠ 43 ∧ (insAt m i j).1 ≠ 46) by omega)] at hq
            exact ops_nil (hq _)
        · refine ops_cons rfl (does_val (v := .bool false) (by show some (Value.bool _, _) = _; first | (simp [c2]; done) | (simp; omega)) ?_)
          refine ops_cons rfl (does_val rfl ?_)
          refine ops_not rfl (ops_not rfl (ops_not rfl (?_)))
          refine ops_cons rfl (does_val rfl ?_)
          have hq := hQ
          rw [decide_eq_false (show ¬ (instrSpec m (i : Nat) (insAt m i j).1 (insAt m i j).2 = 0 ∧ (j : Int) = ((fnOf m i).code.length : Int) - 1 ∧ (insAt m i j).1 ≠ 43 ∧ (insAt m i j).1 ≠ 46) by omega)] at hq
          exact ops_nil (hq _)
      · refine ops_cons rfl (does_val (v := .bool false) (by show some (Value.bool _, _) = _; first | (simp [c1]; done) | (simp; omega)) ?_)
        refine ops_cons rfl (does_val rfl ?_)
        refine ops_not rfl (ops_not rfl (ops_not rfl (?_)))
        refine ops_cons rfl (does_val rfl ?_)
        refine ops_not rfl (ops_not rfl (ops_not rfl (?_)))
        refine ops_cons rfl (does_val rfl ?_)
        have hq := hQ
        rw [decide_eq_false (show ¬ (instrSpec m (i : Nat) (insAt m i j).1 (insAt m i j).2 = 0 ∧ (j : Int) = ((fnOf m i).code.length : Int) - 1 ∧ (insAt m i j).1 ≠ 43 ∧ (insAt m i j).1 ≠ 46) by omega)] at hq
        exact ops_nil (hq _)
    · refine ops_cons rfl (does_val (v := .bool false) (by show some (Value.bool _, _) = _; first | (simp [c0]; done) | (simp; omega)) ?_)
      refine ops_not rfl (ops_not rfl (ops_not rfl (ops_not rfl (ops_not rfl (ops_not rfl (?_))))))
      refine ops_cons rfl (does_val rfl ?_)
      refine ops_not rfl (ops_not rfl (ops_not rfl (?_)))
      refine ops_cons rfl (does_val rfl ?_)
      refine ops_not rfl (ops_not rfl (ops_not rfl (?_)))
      refine ops_cons rfl (does_val rfl ?_)
      have hq := hQ
      rw [decide_eq_false (show ¬ (instrSpec m (i : Nat) (insAt m i j).1 (insAt m i j).2 = 0 ∧ (j : Int) = ((fnOf m i).code.length : Int) - 1 ∧ (insAt m i j).1 ≠ 43 ∧ (insAt m i j).1 ≠ 46) by omega)] at hq
      exact ops_nil (hq _)
  have key : ∀ (K : ACode) (Q : Res TV → Prop), (∀ b17, ARuns E (.code false K [(.agg #[vg, va, vc, vf]), (.pointer (some ⟨n, 0, none⟩)), (.pointer (some ⟨n + 1, 0, none⟩)), x3, x4, (.int .i64 (i : Nat)), (.pointer (some ⟨n7, 0, none⟩)), x7, (.int .i64 (j : Nat)), (.pointer (some ⟨n11, 0, none⟩)), (.int .i64 (errAt m i j)), x11, x12, x13, x14, x15, x16, vf, (.int .i64 ((m.fns.length : Nat) : Int)), (.int .i64 (i : Nat)), x20, x21, vcd, (.int .i64 (((fnOf m i).code.length : Nat) : Int)), (.int .i64 (j : Nat)), (.bool true), b17, x27] H13 []) Q) → ARuns E (.code false (.seq (.region [⟨.bin .eql (.tmp 10) (.const (.int .i64 0)), none, 0⟩, ⟨.mov (.tmp 8), (some ((.loc 0), true)), 0⟩, ⟨.faddr 5 (.tmp 6), (some ((.loc 1), true)), 0⟩, ⟨.load none (.loc 0), (some ((.loc 2), true)), 0⟩, ⟨.len (.loc 0), (some ((.loc 3), true)), 0⟩, ⟨.bin .sub (.loc 0) (.const (.int .i64 1)), (some ((.loc 4), true)), 0⟩, ⟨.bin .eql (.loc 4) (.loc 0), (some ((.loc 5), true)), 0⟩, ⟨.pick (.loc 6) (.loc 0) (.const (.bool false)), none, 0⟩, ⟨.faddr 0 (.tmp 9), (some ((.loc 0), true)), 0⟩, ⟨.load none (.loc 0), (some ((.loc 1), true)), 0⟩, ⟨.bin .neq (.loc 0) (.const (.int .i64 43)), (some ((.loc 2), true)), 0⟩, ⟨.pick (.loc 3) (.loc 0) (.const (.bool false)), none, 0⟩, ⟨.faddr 0 (.tmp 9), (some ((.loc 0), true)), 0⟩, ⟨.load none (.loc 0), (some ((.loc 1), true)), 0⟩, ⟨.bin .neq (.loc 0) (.const (.int .i64 46)), (some ((.loc 2), true)), 0⟩, ⟨.pick (.loc 3) (.loc 0) (.const (.bool false)), none, 0⟩] [(26, (.loc 0))]) (.seq (.cond (.tmp 26) (.region [] [(10, (.const (.int .i64 131)))]) (.skip)) K)) [(.agg #[vg, va, vc, vf]), (.pointer (some ⟨n, 0, none⟩)), (.pointer (some ⟨n + 1, 0, none⟩)), x3, x4, (.int .i64 (i : Nat)), (.pointer (some ⟨n7, 0, none⟩)), x7, (.int .i64 (j : Nat)), (.pointer (some ⟨n11, 0, none⟩)), (.int .i64 (instrSpec m (i : Nat) (insAt m i j).1 (insAt m i j).2)), x11, x12, x13, x14, x15, x16, vf, (.int .i64 ((m.fns.length : Nat) : Int)), (.int .i64 (i : Nat)), x20, x21, vcd, (.int .i64 (((fnOf m i).code.length : Nat) : Int)), (.int .i64 (j : Nat)), (.bool true), x26, x27] H13 []) Q := by
    intro K Q hK
    refine seq_region ?_
    by_cases a6 : instrSpec m (i : Nat) (insAt m i j).1 (insAt m i j).2 = 0 ∧ (j : Int) = ((fnOf m i).code.length : Int) - 1 ∧ (insAt m i j).1 ≠ 43 ∧ (insAt m i j).1 ≠ 46
    · refine t5 _ fun L => ⟨[(.agg #[vg, va, vc, vf]), (.pointer (some ⟨n, 0, none⟩)), (.pointer (some ⟨n + 1, 0, none⟩)), x3, x4, (.int .i64 (i : Nat)), (.pointer (some ⟨n7, 0, none⟩)), x7, (.int .i64 (j : Nat)), (.pointer (some ⟨n11, 0, none⟩)), (.int .i64 (instrSpec m (i : Nat) (insAt m i j).1 (insAt m i j).2)), x11, x12, x13, x14, x15, x16, vf, (.int .i64 ((m.fns.length : Nat) : Int)), (.int .i64 (i : Nat)), x20, x21, vcd, (.int .i64 (((fnOf m i).code.length : Nat) : Int)), (.int .i64 (j : Nat)), (.bool true), (.bool true), x27], by rw [decide_eq_true a6]; rfl, ?_⟩
      refine seq_cond true rfl (seq_region (ops_nil ⟨_, rfl, ?_⟩))
      have he : errAt m i j = 131 := by rw [errAt, if_pos ⟨a6.1, by have := a6.2.1; omega, a6.2.2.1, a6.2.2.2⟩]
      have := hK (.bool true)
      rw [he] at this
      exact this
    · refine t5 _ fun L => ⟨[(.agg #[vg, va, vc, vf]), (.pointer (some ⟨n, 0, none⟩)), (.pointer (some ⟨n + 1, 0, none⟩)), x3, x4, (.int .i64 (i : Nat)), (.pointer (some ⟨n7, 0, none⟩)), x7, (.int .i64 (j : Nat)), (.pointer (some ⟨n11, 0, none⟩)), (.int .i64 (instrSpec m (i : Nat) (insAt m i j).1 (insAt m i j).2)), x11, x12, x13, x14, x15, x16, vf, (.int .i64 ((m.fns.length : Nat) : Int)), (.int .i64 (i : Nat)), x20, x21, vcd, (.int .i64 (((fnOf m i).code.length : Nat) : Int)), (.int .i64 (j : Nat)), (.bool true), (.bool false), x27], by rw [decide_eq_false a6]; rfl, ?_⟩
      refine seq_cond false rfl (seq_skip ?_)
      have he : errAt m i j = instrSpec m (i : Nat) (insAt m i j).1 (insAt m i j).2 := by rw [errAt, if_neg (fun hh => a6 ⟨hh.1, by have := hh.2.1; omega, hh.2.2.1, hh.2.2.2⟩)]
      have := hK (.bool false)
      rw [he] at this
      exact this
  refine seq_assoc (key _ _ fun b17 => ?_)
  refine seq_region ?_
  by_cases a7 : errAt m i j = 0
  · refine ops_cons rfl (does_val (v := .bool false) (by show some (Value.bool (_ != _), _) = _; rw [a7]; rfl) (ops_nil ⟨[(.agg #[vg, va, vc, vf]), (.pointer (some ⟨n, 0, none⟩)), (.pointer (some ⟨n + 1, 0, none⟩)), x3, x4, (.int .i64 (i : Nat)), (.pointer (some ⟨n7, 0, none⟩)), x7, (.int .i64 (j : Nat)), (.pointer (some ⟨n11, 0, none⟩)), (.int .i64 (errAt m i j)), x11, x12, x13, x14, x15, x16, vf, (.int .i64 ((m.fns.length : Nat) : Int)), (.int .i64 (i : Nat)), x20, x21, vcd, (.int .i64 (((fnOf m i).code.length : Nat) : Int)), (.int .i64 (j : Nat)), (.bool true), b17, (.bool false)], rfl, ?_⟩))
    refine runs_cond false rfl (runs_skip ?_)
    show ARuns E _ _
    refine runs_region (ops_cons rfl (does_inc rfl rfl (by omega) (ops_nil ⟨_, rfl, ?_⟩)))
    refine ⟨(fnOf m i).code.length - (j + 1), by omega, j + 1, _, _, _, _, _, _, _, _, _, _, _, _, _, _, _, _, _, rfl, by omega, fun a ha => ?_, rfl, k910.trans k1013, rfl⟩
    by_cases haj : a = j
    · subst haj; exact a7
    · exact heg a (by omega)
  · refine ops_cons rfl (does_val (v := .bool true) (by show some (Value.bool (_ != _), _) = _; simp [a7]) (ops_nil ⟨[(.agg #[vg, va, vc, vf]), (.pointer (some ⟨n, 0, none⟩)), (.pointer (some ⟨n + 1, 0, none⟩)), x3, x4, (.int .i64 (i : Nat)), (.pointer (some ⟨n7, 0, none⟩)), x7, (.int .i64 (j : Nat)), (.pointer (some ⟨n11, 0, none⟩)), (.int .i64 (errAt m i j)), x11, x12, x13, x14, x15, x16, vf, (.int .i64 ((m.fns.length : Nat) : Int)), (.int .i64 (i : Nat)), x20, x21, vcd, (.int .i64 (((fnOf m i).code.length : Nat) : Int)), (.int .i64 (j : Nat)), (.bool true), b17, (.bool true)], rfl, ?_⟩))
    refine runs_cond true rfl ?_
    refine seq_region ?_
    refine ops_cons rfl (does_val rfl ?_)
    refine ops_cons rfl (does_store rfl rfl rfl rfl rfl gz13 (Nat.zero_le _) (show 3 ≤ 3 by omega) (ops_nil ⟨_, rfl, ?_⟩))
    refine runs_exit ?_
    exact fin _ _ _ _ _ rfl (get_set_same (Vec.get_lt _ _ _ gz13)) (.inr (.inr (.inl ⟨nm, ga, i, hlt, hfg, .inr ⟨a3, j, hjl, a7, heg, rfl, rfl⟩, rfl⟩))) ((k13).set _ (by omega))
end Go.Proofs.Ytollibkfagjnaaa.Shape
